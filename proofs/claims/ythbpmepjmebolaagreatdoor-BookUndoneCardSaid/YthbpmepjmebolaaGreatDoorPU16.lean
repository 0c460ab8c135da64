/-
  Texts of this claim, packed by a program: ER ES FG GR GQ ET EV GU GT GV.
-/
import Derived.WalkKit
import Derived.WalkLawsBesides
import Derived.WalkSpells
import Derived.Outline
import Derived.Handy
import Derived.KernelRfl
import Derived.Lib.Hide
import Derived.BigRegion
import Derived.Laws.IdiomStrings
import Derived.Test.YthbpmepjmebolaaGreatDoorPU15
set_option maxHeartbeats 8000000
set_option maxRecDepth 100000
set_option linter.all false
section
namespace Go.Proofs.YthbpmepjmebolaaGreatDoor.Bk
open Go.RowKit Go.RG Go.SL Go.Shelf jv Go.TB Go.Proofs.YthbpmepjmebolaaGreatDoor.zF
theorem lt_mul (N a b:Int) (h0:0<=N) (h1:N<=1000) (h2:a<=b) (h3:b<=a+9):0<=N*(b-a+1)/\N*(b-a+1)<=10000:=by
 have h4:1<=b-a+1:=by omega
 have h5:b-a+1<=10:=by omega
 generalize b-a+1=d at*
 refine⟨Int.mul_nonneg h0 (by omega),?_⟩
 calc N*d<=1000*d:=Int.mul_le_mul_of_nonneg_right h1 (by omega)
  _<=1000*10:=by omega
theorem RQ {l:aF} {n:List Int} (h:numsOf l=some n) (a:aF) (ha:(bG l).headD []=a):
 ((a==[114,111,119])=true/\(a==[114,97,116,101])=false/\(a==[115,116,97,114,116])=false/\(a==[119,101,116])=false/\(a==[104,101,97,112])=false/\(a==[115,116,114,111,110,103])=false)∨
 ((a==[114,111,119])=false/\(a==[114,97,116,101])=true/\(a==[115,116,97,114,116])=false/\(a==[119,101,116])=false/\(a==[104,101,97,112])=false/\(a==[115,116,114,111,110,103])=false/\n.length=1)∨
 ((a==[114,111,119])=false/\(a==[114,97,116,101])=false/\(a==[115,116,97,114,116])=false/\(a==[119,101,116])=false/\(a==[104,101,97,112])=false/\(a==[115,116,114,111,110,103])=false)∨
 ((a==[114,111,119])=false/\(a==[114,97,116,101])=false/\(a==[115,116,97,114,116])=true/\2<=n.length)∨
 ((a==[114,111,119])=false/\(a==[114,97,116,101])=false/\(a==[115,116,97,114,116])=false/\(a==[119,101,116])=true/\2<=n.length)∨
 ((a==[114,111,119])=false/\(a==[114,97,116,101])=false/\(a==[115,116,97,114,116])=false/\(a==[119,101,116])=false/\(a==[104,101,97,112])=true/\2<=n.length)∨
 ((a==[114,111,119])=false/\(a==[114,97,116,101])=false/\(a==[115,116,97,114,116])=false/\(a==[119,101,116])=false/\(a==[104,101,97,112])=false/\(a==[115,116,114,111,110,103])=true/\2<=n.length):=by
 rw[Di] at h
 cases hp:mO l with
 |none=>rw[hp] at h;cases h
 |some cn=>
  obtain⟨c,m⟩:=cn
  rw[hp] at h
  obtain rfl:=iV h
  obtain⟨h1,h2,_,_⟩:=ni hp
  rw[ha] at h1
  subst h1
  clear hp h ha
  cases c <;>simp only[jl.many,jl.word] at h2⊢ <;>first
   |exact .inl (by decide)
   |exact .inr (.inl ⟨by decide,by decide,by decide,by decide,by decide,by decide,h2⟩)
   |exact .inr (.inr (.inl (by decide)))
   |exact .inr (.inr (.inr (.inl ⟨by decide,by decide,by decide,by omega⟩)))
   |exact .inr (.inr (.inr (.inr (.inl ⟨by decide,by decide,by decide,by decide,by omega⟩))))
   |exact .inr (.inr (.inr (.inr (.inr (.inl ⟨by decide,by decide,by decide,by decide,by decide,by omega⟩)))))
   |exact .inr (.inr (.inr (.inr (.inr (.inr ⟨by decide,by decide,by decide,by decide,by decide,by decide,by omega⟩)))))
def aiH (w:World) (e:Ending) (w':World):Prop:=Below w.heap.size w w'/\ ∃b,e= .returned (.bool b)
theorem Yn (ls:List aF) (v:Value) (w:World) (hv:jb w v ls) (hll:ls.length<=100) (hl: ∀x∈ls,x.length<=1000):Calls Tryz.prog 29 #[v] w (aiH w):=by
 have hlen:=hv.len
 obtain⟨o,c,rfl⟩:=aN.open hv
 have HV:=ae hv
 have HL:=ae hl
 clear hv hl
 go_enter Tryz.func29,Tryz.ntmps29
 go_wp2_with fail
 go_loopw [3,4,5] (fun n r i wr=> ∃(k:Nat) (N R:Int),k<=ls.length/\i= .int .i64 k/\n= .int .i64 N/\r= .int .i64 R/\0<=N/\N<=10000/\0<=R/\R<=k/\Below w.heap.size w wr) (fun _ _ i _=>ls.length-(intOf i).toNat)
 case atStart=>exact⟨0,1,0,bU _,rfl,rfl,rfl,by omega,by omega,by omega,by omega,aG _ _⟩
 case round=>
  obtain⟨k,N,R,hk,rfl,rfl,rfl,hN0,hN1,hR0,hR1,hB⟩:=hrel
  have HB:=ae hB
  by_cases hlt:k<ls.length
  ·obtain⟨b,off,rfl,hb,hc0⟩:=jb.cell (aN.below HV.o hB (ak _)) hlt
   obtain⟨x,hx⟩: ∃x,ls[k]=x:=⟨_,rfl⟩
   rw[hx] at hc0
   have hxl:x.length<=1000:=HL.o x (by rw[<-hx];exact cZ _)
   have HW:=ae (fun W=>Ah x W hxl)
   have HNU:=ae (fun W=>LC x W hxl)
   clear hB hx
   go_wp2_with fail
   refine(HW.o wr).mono ?_
   rintro e W2 ⟨v2,rfl,how,hB⟩
   obtain⟨o2,c2,rfl⟩:=aS how
   have hs2:=hB.size
   have alh:=((bT hB).1 b (off+k) hb).trans hc0
   have HB2:=ae (aY HB.o hB)
   obtain⟨a,ps,hw⟩: ∃a ps,bG x=a::ps:=by
    cases h:bG x with
    |nil=>exact absurd h (jH x)
    |cons a ps=>exact⟨a,ps,rfl⟩
   have HHD:Hid ((bG x).headD []=a):=ae (by rw[hw];rfl)
   have A8:=ae (aN.dH how)
   rw[hw] at A8
   rw[hw,List.length_cons]
   simp only[List.length_cons] at A8
   clear how hB hc0 hb hw HL
   go_wp2_with fail
   refine(HNU.o W2).mono ?_
   rintro e W3 ⟨hB3,v3,rfl,hv3⟩
   have hs3:=hB3.size
   have HB4:=ae (aY HB2.o hB3)
   have HO3:=ae (aN.below A8.o hB3 (ak _))
   obtain⟨b2,ao7,rfl,hb2,hc3⟩:=jb.cell (l:=a::ps) HO3.o (k:=0) (by simp)
   simp only[List.getElem_cons_zero,Nat.add_zero] at hc3
   clear hB3 alh
   rcases hv3 with⟨hq,rfl⟩|⟨ns,hq,how⟩
   ·rw[hq]
    clear hq
    simp only[Option.isSome_none]
    go_wp2_with fail
    go_roundw
    case rel=>exact⟨k+1,_,_,by omega,by go_num,rfl,rfl,by omega,by omega,by omega,by omega,HB4.o⟩
    case measure=>simp[intOf];omega
   ·have EI:=RQ hq a HHD.o
    rw[hq]
    obtain⟨o3,c3,rfl⟩:=aS how
    have Yw:=ae (aN.dH how)
    have hbd: ∀y∈ns,0<=y/\y<=9999:=by
     rw[Di] at hq
     cases hp:mO x with
     |none=>rw[hp] at hq;cases hq
     |some cn=>
      rw[hp] at hq
      obtain rfl:=iV hq
      exact(ni (c:=cn.1) (n:=cn.2) hp).2.2.1
    have hnl:ns.length<=5:=by
     rw[Di] at hq
     cases hp:mO x with
     |none=>rw[hp] at hq;cases hq
     |some cn=>
      rw[hp] at hq
      obtain rfl:=iV hq
      have:=(ni (c:=cn.1) (n:=cn.2) hp).2.1
      rw[this]
      cases cn.1 <;>decide
    have Nl:=ae hbd
    clear hq how hbd
    simp only[Option.isSome_some]
    rcases EI with⟨g1,g2,g3,g4,g5,g6⟩|⟨g1,g2,g3,g4,g5,g6,gl⟩|⟨g1,g2,g3,g4,g5,g6⟩|⟨g1,g2,g3,gl⟩|⟨g1,g2,g3,g4,gl⟩|⟨g1,g2,g3,g4,g5,gl⟩|⟨g1,g2,g3,g4,g5,g6,gl⟩
    ·go_wp2_with fail
     go_roundw
     case rel=>exact⟨k+1,_,_,by omega,by go_num,rfl,rfl,by omega,by omega,by omega,by omega,HB4.o⟩
     case measure=>simp[intOf];omega
    ·obtain⟨y,rfl⟩: ∃y,ns=[y]:=by
      match ns,gl with
      |[y],_=>exact⟨y,rfl⟩
     obtain⟨b3,Ot,rfl,hb3,hc4⟩:=aP.cell (l:=[y]) Yw.o (k:=0) (by simp)
     simp only[List.getElem_cons_zero,Nat.add_zero] at hc4
     by_cases hy:(20:Int)<y
     ·by_cases hy5:y<=50
      ·go_wp2_with fail
       go_returns
       exact⟨HB4.o,_,rfl⟩
      ·go_wp2_with fail
       go_roundw
       case rel=>exact⟨k+1,_,_,by omega,by go_num,rfl,rfl,by omega,by omega,by omega,by omega,HB4.o⟩
       case measure=>simp[intOf];omega
     ·go_wp2_with fail
      go_roundw
      case rel=>exact⟨k+1,_,_,by omega,by go_num,rfl,rfl,by omega,by omega,by omega,by omega,HB4.o⟩
      case measure=>simp[intOf];omega
    ·go_wp2_with fail
     go_roundw
     case rel=>exact⟨k+1,_,_,by omega,by go_num,rfl,rfl,by omega,by omega,by omega,by omega,HB4.o⟩
     case measure=>simp[intOf];omega
    ·obtain⟨m,hm⟩: ∃m,ns.length=m+2:=⟨ns.length-2,by omega⟩
     obtain⟨b3,Ot,rfl,hb3,hc4⟩:=aP.cell (l:=ns) Yw.o (k:=m) (by omega)
     obtain⟨b9,RZ,he9,_,hc5⟩:=aP.cell (l:=ns) Yw.o (k:=m+1) (by omega)
     obtain⟨rfl,rfl⟩:b9=b3/\RZ=Ot:=by
      injection he9 with h
      injection h with h1 h2
      exact⟨h1.symm,h2.symm⟩
     obtain⟨xa,hxa⟩: ∃y,ns[m]=y:=⟨_,rfl⟩
     obtain⟨xb,hxb⟩: ∃y,ns[m+1]=y:=⟨_,rfl⟩
     have aeQ:=Nl.o xa (by rw[<-hxa];exact cZ _)
     have aeP:=Nl.o xb (by rw[<-hxb];exact cZ _)
     rw[hxa] at hc4
     rw[hxb] at hc5
     rw[hm]
     have hml:m<=1000:=by omega
     have e1:(m:Int)+2-2=m:=by omega
     have e2:(m:Int)+2-1=(m:Int)+1:=by omega
     clear hxa hxb hm he9 gl
     go_wp2_with fail
     by_cases hab:xa<=xb
     ·by_cases hba:xb<=xa+9
      ·by_cases hN:N<=1000
       ·have hmul:=lt_mul N xa xb hN0 hN hab hba
        have hw64:wrap64 (N*(xb-xa+1))=N*(xb-xa+1):=IntWalk.wrap64_in _ ⟨by omega,by omega⟩
        go_region
        all_goals go_wp2_with fail
        all_goals go_roundw
        all_goals first
         |exact⟨k+1,_,_,by omega,by go_num,rfl,rfl,by omega,by omega,by omega,by omega,iC HB4.o⟩
         |(simp[intOf];omega)
       ·go_region
        all_goals go_wp2_with fail
        all_goals go_roundw
        all_goals first
         |exact⟨k+1,_,_,by omega,by go_num,rfl,rfl,by omega,by omega,by omega,by omega,iC HB4.o⟩
         |(simp[intOf];omega)
      ·go_region
       all_goals go_wp2_with fail
       all_goals go_roundw
       all_goals first
        |exact⟨k+1,_,_,by omega,by go_num,rfl,rfl,by omega,by omega,by omega,by omega,iC HB4.o⟩
        |(simp[intOf];omega)
     ·go_region
      all_goals go_wp2_with fail
      all_goals go_roundw
      all_goals first
       |exact⟨k+1,_,_,by omega,by go_num,rfl,rfl,by omega,by omega,by omega,by omega,iC HB4.o⟩
       |(simp[intOf];omega)
    ·obtain⟨m,hm⟩: ∃m,ns.length=m+2:=⟨ns.length-2,by omega⟩
     obtain⟨b3,Ot,rfl,hb3,hc4⟩:=aP.cell (l:=ns) Yw.o (k:=m) (by omega)
     obtain⟨b9,RZ,he9,_,hc5⟩:=aP.cell (l:=ns) Yw.o (k:=m+1) (by omega)
     obtain⟨rfl,rfl⟩:b9=b3/\RZ=Ot:=by
      injection he9 with h
      injection h with h1 h2
      exact⟨h1.symm,h2.symm⟩
     obtain⟨xa,hxa⟩: ∃y,ns[m]=y:=⟨_,rfl⟩
     obtain⟨xb,hxb⟩: ∃y,ns[m+1]=y:=⟨_,rfl⟩
     have aeQ:=Nl.o xa (by rw[<-hxa];exact cZ _)
     have aeP:=Nl.o xb (by rw[<-hxb];exact cZ _)
     rw[hxa] at hc4
     rw[hxb] at hc5
     rw[hm]
     have hml:m<=1000:=by omega
     have e1:(m:Int)+2-2=m:=by omega
     have e2:(m:Int)+2-1=(m:Int)+1:=by omega
     clear hxa hxb hm he9 gl
     go_wp2_with fail
     by_cases hab:xa<=xb
     ·by_cases hba:xb<=xa+9
      ·by_cases hN:N<=1000
       ·have hmul:=lt_mul N xa xb hN0 hN hab hba
        have hw64:wrap64 (N*(xb-xa+1))=N*(xb-xa+1):=IntWalk.wrap64_in _ ⟨by omega,by omega⟩
        go_region
        all_goals go_wp2_with fail
        all_goals go_roundw
        all_goals first
         |exact⟨k+1,_,_,by omega,by go_num,rfl,rfl,by omega,by omega,by omega,by omega,iC HB4.o⟩
         |(simp[intOf];omega)
       ·go_region
        all_goals go_wp2_with fail
        all_goals go_roundw
        all_goals first
         |exact⟨k+1,_,_,by omega,by go_num,rfl,rfl,by omega,by omega,by omega,by omega,iC HB4.o⟩
         |(simp[intOf];omega)
      ·go_region
       all_goals go_wp2_with fail
       all_goals go_roundw
       all_goals first
        |exact⟨k+1,_,_,by omega,by go_num,rfl,rfl,by omega,by omega,by omega,by omega,iC HB4.o⟩
        |(simp[intOf];omega)
     ·go_region
      all_goals go_wp2_with fail
      all_goals go_roundw
      all_goals first
       |exact⟨k+1,_,_,by omega,by go_num,rfl,rfl,by omega,by omega,by omega,by omega,iC HB4.o⟩
       |(simp[intOf];omega)
    ·obtain⟨m,hm⟩: ∃m,ns.length=m+2:=⟨ns.length-2,by omega⟩
     obtain⟨b3,Ot,rfl,hb3,hc4⟩:=aP.cell (l:=ns) Yw.o (k:=m) (by omega)
     obtain⟨b9,RZ,he9,_,hc5⟩:=aP.cell (l:=ns) Yw.o (k:=m+1) (by omega)
     obtain⟨rfl,rfl⟩:b9=b3/\RZ=Ot:=by
      injection he9 with h
      injection h with h1 h2
      exact⟨h1.symm,h2.symm⟩
     obtain⟨xa,hxa⟩: ∃y,ns[m]=y:=⟨_,rfl⟩
     obtain⟨xb,hxb⟩: ∃y,ns[m+1]=y:=⟨_,rfl⟩
     have aeQ:=Nl.o xa (by rw[<-hxa];exact cZ _)
     have aeP:=Nl.o xb (by rw[<-hxb];exact cZ _)
     rw[hxa] at hc4
     rw[hxb] at hc5
     rw[hm]
     have hml:m<=1000:=by omega
     have e1:(m:Int)+2-2=m:=by omega
     have e2:(m:Int)+2-1=(m:Int)+1:=by omega
     clear hxa hxb hm he9 gl
     go_wp2_with fail
     by_cases hab:xa<=xb
     ·by_cases hba:xb<=xa+9
      ·by_cases hN:N<=1000
       ·have hmul:=lt_mul N xa xb hN0 hN hab hba
        have hw64:wrap64 (N*(xb-xa+1))=N*(xb-xa+1):=IntWalk.wrap64_in _ ⟨by omega,by omega⟩
        go_region
        all_goals go_wp2_with fail
        all_goals go_roundw
        all_goals first
         |exact⟨k+1,_,_,by omega,by go_num,rfl,rfl,by omega,by omega,by omega,by omega,iC HB4.o⟩
         |(simp[intOf];omega)
       ·go_region
        all_goals go_wp2_with fail
        all_goals go_roundw
        all_goals first
         |exact⟨k+1,_,_,by omega,by go_num,rfl,rfl,by omega,by omega,by omega,by omega,iC HB4.o⟩
         |(simp[intOf];omega)
      ·go_region
       all_goals go_wp2_with fail
       all_goals go_roundw
       all_goals first
        |exact⟨k+1,_,_,by omega,by go_num,rfl,rfl,by omega,by omega,by omega,by omega,iC HB4.o⟩
        |(simp[intOf];omega)
     ·go_region
      all_goals go_wp2_with fail
      all_goals go_roundw
      all_goals first
       |exact⟨k+1,_,_,by omega,by go_num,rfl,rfl,by omega,by omega,by omega,by omega,iC HB4.o⟩
       |(simp[intOf];omega)
    ·obtain⟨m,hm⟩: ∃m,ns.length=m+2:=⟨ns.length-2,by omega⟩
     obtain⟨b3,Ot,rfl,hb3,hc4⟩:=aP.cell (l:=ns) Yw.o (k:=m) (by omega)
     obtain⟨b9,RZ,he9,_,hc5⟩:=aP.cell (l:=ns) Yw.o (k:=m+1) (by omega)
     obtain⟨rfl,rfl⟩:b9=b3/\RZ=Ot:=by
      injection he9 with h
      injection h with h1 h2
      exact⟨h1.symm,h2.symm⟩
     obtain⟨xa,hxa⟩: ∃y,ns[m]=y:=⟨_,rfl⟩
     obtain⟨xb,hxb⟩: ∃y,ns[m+1]=y:=⟨_,rfl⟩
     have aeQ:=Nl.o xa (by rw[<-hxa];exact cZ _)
     have aeP:=Nl.o xb (by rw[<-hxb];exact cZ _)
     rw[hxa] at hc4
     rw[hxb] at hc5
     rw[hm]
     have hml:m<=1000:=by omega
     have e1:(m:Int)+2-2=m:=by omega
     have e2:(m:Int)+2-1=(m:Int)+1:=by omega
     clear hxa hxb hm he9 gl
     go_wp2_with fail
     by_cases hab:xa<=xb
     ·by_cases hba:xb<=xa+9
      ·by_cases hN:N<=1000
       ·have hmul:=lt_mul N xa xb hN0 hN hab hba
        have hw64:wrap64 (N*(xb-xa+1))=N*(xb-xa+1):=IntWalk.wrap64_in _ ⟨by omega,by omega⟩
        go_region
        all_goals go_wp2_with fail
        all_goals go_roundw
        all_goals first
         |exact⟨k+1,_,_,by omega,by go_num,rfl,rfl,by omega,by omega,by omega,by omega,iC HB4.o⟩
         |(simp[intOf];omega)
       ·go_region
        all_goals go_wp2_with fail
        all_goals go_roundw
        all_goals first
         |exact⟨k+1,_,_,by omega,by go_num,rfl,rfl,by omega,by omega,by omega,by omega,iC HB4.o⟩
         |(simp[intOf];omega)
      ·go_region
       all_goals go_wp2_with fail
       all_goals go_roundw
       all_goals first
        |exact⟨k+1,_,_,by omega,by go_num,rfl,rfl,by omega,by omega,by omega,by omega,iC HB4.o⟩
        |(simp[intOf];omega)
     ·go_region
      all_goals go_wp2_with fail
      all_goals go_roundw
      all_goals first
       |exact⟨k+1,_,_,by omega,by go_num,rfl,rfl,by omega,by omega,by omega,by omega,iC HB4.o⟩
       |(simp[intOf];omega)
  ·have hkl:k=ls.length:=by omega
   subst hkl
   by_cases h60:N<=60
   ·go_wp2_with fail
    go_returns
    exact⟨HB.o,_,rfl⟩
   ·go_wp2_with fail
    go_returns
    exact⟨HB.o,_,rfl⟩
def abh (ls:List aF) (w:World) (e:Ending) (w':World):Prop:=Below w.heap.size w w'/\ ∃b,e= .returned (.bool b)/\(b=true->dG ls=0)
theorem Yk (ls:List aF) (v:Value) (w:World) (hv:jb w v ls):Calls Tryz.prog 8 #[v] w (abh ls w):=by
 have HV:=ae hv
 have HT:=ae (fun W (hb:Below w.heap.size w W)=>abg ls v W (HV.o.below hb (ak _)))
 have HF:=ae (fun W (hb:Below w.heap.size w W)=>SB ls v W (HV.o.below hb (ak _)))
 have HLT:=ae (fun W (hb:Below w.heap.size w W) (h:Jz ls=true)=>Yn ls v W (HV.o.below hb (ak _)) (by have:=(vN.1 h).1;omega) (fun x hx=>by have:=(vN.1 h).2 x hx;omega))
 clear hv
 obtain⟨q,hq⟩: ∃q,Jz ls=q:=⟨_,rfl⟩
 rw[hq] at HT HLT
 obtain⟨f,hf⟩: ∃f,dG ls=f:=⟨_,rfl⟩
 rw[hf] at HF
 unfold abh
 rw[hf]
 clear hq hf
 go_enter Tryz.func8,Tryz.ntmps8
 go_wp2_with fail
 refine(HT.o w (aG _ _)).mono ?_
 rintro e W1 ⟨rfl,hB1⟩
 have HB1:=ae hB1
 clear hB1
 cases q with
 |false=>
  go_wp2_with fail
  go_returns
  exact⟨HB1.o,_,rfl,fun h=>by cases h⟩
 |true=>
  go_wp2_with fail
  refine(HF.o W1 HB1.o).mono ?_
  rintro e W2 ⟨rfl,hB2⟩
  have HB2:=ae (aY HB1.o hB2)
  clear hB2
  by_cases h0:f=0
  ·subst h0
   go_wp2_with fail
   refine(HLT.o W2 HB2.o (by first|trivial|rfl)).mono ?_
   rintro e W3 ⟨hB3,b,rfl⟩
   have HB3:=ae (aY HB2.o hB3)
   clear hB3
   go_wp2_with fail
   go_returns
   exact⟨HB3.o,by cases b <;>simp⟩
  ·go_wp2_with fail
   go_returns
   exact⟨HB2.o,_,rfl,fun h=>by cases h⟩
end Go.Proofs.YthbpmepjmebolaaGreatDoor.Bk
end
section
namespace Go.Proofs.YthbpmepjmebolaaGreatDoor.Bk
open Go.Lib Go.RowKit Go.RG Go.SL Go.Shelf jv Go.TB Go.Proofs.YthbpmepjmebolaaGreatDoor.zF
theorem Qd (c:bQ) (hv nO tv hu ksu tu:Value) (es ds:List KE) (w:World) (hc:pq w hv nO tv es c) (hd:pq w hu ksu tu ds c):
 Calls Tryz.prog 24 #[kv hv nO tv,kv hu ksu tu] w (PV (.bool true) w):=by
 obtain⟨ho,hcap,rfl⟩:=aN.open hc.heaps
 obtain⟨uo,aoO,rfl⟩:=aN.open hd.heaps
 obtain⟨ko,apb,rfl⟩:=aN.open hc.aT.1
 obtain⟨lo,ao8,rfl⟩:=aN.open hd.aT.1
 obtain⟨tO,aoP,rfl⟩:=aN.open hc.aK
 obtain⟨so,scap,rfl⟩:=aN.open hd.aK
 have hlh:=hc.heaps.len
 have hlk:=hc.aT.1.len
 have hlt':=hc.aK.len
 have hed:ds.length=es.length:=by rw[hd.len,hc.len]
 rw[hed]
 have HED:=ae hed
 have HC:=ae (ag hc hd)
 clear hc hd hed
 go_enter Tryz.func24,Tryz.ntmps24
 go_upto_region 1 with(fail)
 refine dF fun W1 hW1=>?_
 obtain⟨hb1,k1,k2,hz1⟩:=rY hW1
 obtain⟨c1,f1,l1⟩:=af k1
 obtain⟨c2,f2',l2⟩:=af k2
 have HB1:=ae hb1
 have HK:=ae (ag k1 k2)
 clear hb1 hW1 k1 k2
 go_wp2_with fail
 go_loopw [5] (fun i wr=> ∃k:Nat,k<=(c.heaps).length/\i= .int .i64 k/\Below W1.heap.size W1 wr) (fun i _=>(c.heaps).length-(intOf i).toNat)
 case atStart=>exact⟨0,bU _,rfl,aG _ _⟩
 case round=>
  obtain⟨k,hk,rfl,hB⟩:=hrel
  obtain⟨c7,f7,l7⟩:=af ((hB.block _ l1).trans HK.o.1)
  obtain⟨c8,f8,l8⟩:=af ((hB.block _ l2).trans HK.o.2)
  by_cases hlt:k<(c.heaps).length
  ·obtain⟨g1,o1,e1,r1,x1,x2⟩:=bP.cell (HC.o.1.heaps.below (aY HB1.o hB) (ak _)) hlt
   obtain⟨g2,o2,e2,r2,y1,y2⟩:=bP.cell (HC.o.2.heaps.below (aY HB1.o hB) (ak _)) hlt
   generalize (c.heaps)[k]=x at*
   have HX:=ae hB
   have xO:(k:Int)<(c.heaps).length:=by omega
   cases e1
   cases e2
   clear hB
   go_wp2_with fail
   go_region
   all_goals go_wp2_with fail
   all_goals go_roundw
   all_goals first
    |exact⟨k+1,by omega,by go_num,iC HX.o⟩
    |(simp[intOf];omega)
  ·have k9:=(hB.block _ l1).trans HK.o.1
   have k10:=(hB.block _ l2).trans HK.o.2
   have HB3:=ae (aY HB1.o hB)
   generalize wr=W3 at*
   have FU:=ae (ag k9 k10)
   clear hB k9 k10
   go_wp2_with fail
   go_loopw [6] (fun i wr=> ∃k:Nat,k<=es.length/\i= .int .i64 k/\Below W3.heap.size W3 wr) (fun i _=>es.length-(intOf i).toNat)
   case atStart=>exact⟨0,bU _,rfl,aG _ _⟩
   case round=>
    obtain⟨k,hk,rfl,hB⟩:=hrel
    obtain⟨c9,f9,l9⟩:=af ((hB.block _ l7).trans FU.o.1)
    obtain⟨c10,f10,l10⟩:=af ((hB.block _ l8).trans FU.o.2)
    by_cases hlt:k<es.length
    ·have hcw:=HC.o.1.aT.below (aY HB3.o hB) (ak _)
     have hdw:=HC.o.2.aT.below (aY HB3.o hB) (ak _)
     have aeC:k<ds.length:=by rw[HED.o];exact hlt
     obtain⟨g1,o1,e1,r1,x1⟩:=wG.cell hcw hlt
     obtain⟨g2,o2,e2,r2,y1⟩:=wG.cell hdw aeC
     have i1:=hcw.2 _ (cZ hlt)
     have i2:=hdw.2 _ (cZ aeC)
     have e3:ds[k].2=es[k].2:=by rw[HC.o.1.mem hlt,HC.o.2.mem aeC]
     rw[e3] at i2
     clear hcw hdw e3
     generalize es[k]=x at*
     generalize ds[k].1=y at*
     obtain⟨xv,xl⟩:=x
     simp only at i1 i2 x1
     obtain⟨xo,xc,rfl⟩:=aN.open i1
     obtain⟨yo,yc,rfl⟩:=aN.open i2
     have HX:=ae hB
     have HI:=ae (fun W (hb:Below wr.heap.size wr W)=>Ak xl _ _ W (i1.below hb (ak _)) (i2.below hb (ak _)))
     have xO:(k:Int)<es.length:=by omega
     cases e1
     cases e2
     clear hB i1 i2
     go_upto_region 11 with(fail)
     refine zg 12 [] none [(10,Spec.val (.bool true))] ?_
     simp only[zt]
     repeat ((first|refine zn ?_|refine zk ?_);simp only[zp])
     refine zw 35 (h:=fun W hE hF=>by
      have hE':Ext [] wr W:=hE
      exact HI.o W hE'.below) (t:=?_)
     simp only[zp]
     repeat ((first|refine zn ?_|refine zk ?_);simp only[zp])
     intro W4 hE hF
     have hb4:Below wr.heap.size wr W4:=Ext.below (show Ext [] wr W4 from hE)
     have HB4:=ae (aY HX.o hb4)
     clear hE hF hb4
     go_wp2_with fail
     go_roundw
     all_goals first
      |exact⟨k+1,by omega,by go_num,HB4.o⟩
      |(simp[intOf];omega)
    ·have k11:=(hB.block _ l7).trans FU.o.1
     have k12:=(hB.block _ l8).trans FU.o.2
     have oK:=ae (aY HB3.o hB)
     have hkl:k=es.length:=by omega
     generalize wr=W5 at*
     have UK:=ae (ag k11 k12)
     clear hB k11 k12
     go_wp2_with fail
     go_loopw [7] (fun i wr=> ∃k:Nat,k<=(c.aK).length/\i= .int .i64 k/\Below W5.heap.size W5 wr) (fun i _=>(c.aK).length-(intOf i).toNat)
     case atStart=>exact⟨0,bU _,rfl,aG _ _⟩
     case round=>
      obtain⟨k,hk,rfl,hB⟩:=hrel
      obtain⟨c7,f7,l7⟩:=af ((hB.block _ l9).trans UK.o.1)
      obtain⟨c8,f8,l8⟩:=af ((hB.block _ l10).trans UK.o.2)
      by_cases hlt:k<(c.aK).length
      ·obtain⟨g1,o1,e1,r1,x1,x2,x3,x4⟩:=vI.cell (HC.o.1.aK.below (aY oK.o hB) (ak _)) hlt
       obtain⟨g2,o2,e2,r2,y1,y2,y3,y4⟩:=vI.cell (HC.o.2.aK.below (aY oK.o hB) (ak _)) hlt
       generalize (c.aK)[k]=x at*
       have HX:=ae hB
       have xO:(k:Int)<(c.aK).length:=by omega
       cases e1
       cases e2
       clear hB
       go_wp2_with fail
       go_region
       all_goals go_wp2_with fail
       all_goals go_roundw
       all_goals first
        |exact⟨k+1,by omega,by go_num,iC HX.o⟩
        |(simp[intOf];omega)
      ·skip
       have HZ:=ae (aY oK.o hB)
       have hkl:k=(c.aK).length:=by omega
       clear hB
       go_wp2_with fail
       go_returns
       exact⟨rfl,HZ.o⟩
theorem uQ {P:Program} {ops:Array Oper} {rest:List Oper} {o:Oper} {a:Act} {w:World} {Q:Exit->Act->World->Prop} (hw:Region.wanted o (yielded ops a.tmps)=true) (ty:TypeId) (x:Operand) (ho:o.op= .load ty x)
 (g:Nat) (hx:a.eval x= .pointer (some ⟨g,0,none⟩)) (t:TypeId) (cs:Array Value) (fr:Nat×Nat) (d:TypeDesc) (hg:w.heap[g]? =some (.cells cs t fr))
 (hu:P.underlying ty=some d) (hd:(match d with| .struct _| .array _ _=>true|_=>false)=true) (hi:(P.info? ty).map (·.size)=some cs.size)
 (h:wpList P ops Q rest (a.put o.dst (.agg cs)) w):wpList P ops Q (o::rest) a w:=
 wpList_step fun K hK=>by rw[aA hw];exact wp_load_row ty x ho g hx t cs fr d hg hu hd hi (hK _ _ h)
theorem Rq (s:jF) (V U:SV) (es ds:List KE) (w:World) (hS:oG w s V es) (hT:oG w s U ds):
 Calls Tryz.prog 12 #[.agg (dw s V),.agg (dw s U)] w (PV (.bool true) w):=by
 obtain⟨vt,vn,vw,vu,vr,vh,vk,vs⟩:=V
 obtain⟨ut,un,uw,uu,ur,uh,uk,us⟩:=U
 have HS:=ae (fun W (hb:Below w.heap.size w W)=>ag (hS.below hb (ak _)) (hT.below hb (ak _)))
 clear hS hT
 go_enter Tryz.func12,Tryz.ntmps12
 go_upto_region 1 with(fail)
 refine dF fun W1 hW1=>?_
 obtain⟨hb1,k1,k2,hz1⟩:=rY hW1
 have l1:w.heap.size<W1.heap.size:=by omega
 have l2:w.heap.size+1<W1.heap.size:=by omega
 have HB1:=ae hb1
 have HK:=ae (ag k1 k2)
 clear hb1 hW1 k1 k2 hz1
 refine wp_region_lit ?_
 refine wpList_load_row rfl _ _ rfl w.heap.size rfl _ _ _ _ HK.o.1 Tryz.underlying46 rfl (by kernel_rfl) ?_
 simp only[zp]
 refine wpList_load_row rfl _ _ rfl (w.heap.size+1) rfl _ _ _ _ HK.o.2 Tryz.underlying46 rfl (by kernel_rfl) ?_
 simp only[zp]
 go_wp2_with fail
 refine(TD s s _ _ W1 (HS.o W1 HB1.o).1.vO (HS.o W1 HB1.o).2.vO rfl).mono ?_
 rintro e W2 ⟨rfl,hb2⟩
 have HB2:=ae (aY HB1.o hb2)
 have k3:=(hb2.block _ l1).trans HK.o.1
 have k4:=(hb2.block _ l2).trans HK.o.2
 obtain⟨c3,f3,l3⟩:=af k3
 obtain⟨c4,f4,l4⟩:=af k4
 have KP:=ae (ag k3 k4)
 clear hb2 k3 k4
 go_wp2_with fail
 refine(VK s.led s.led _ _ _ _ W2 (HS.o W2 HB2.o).1.QL (HS.o W2 HB2.o).2.QL rfl rfl rfl).mono ?_
 rintro e W3 ⟨rfl,hb3⟩
 have HB3:=ae (aY HB2.o hb3)
 have k3:=(hb3.block _ l3).trans KP.o.1
 have k4:=(hb3.block _ l4).trans KP.o.2
 clear c3 f3 c4 f4
 obtain⟨c5,f5,l5⟩:=af k3
 obtain⟨c6,f6,l6⟩:=af k4
 have FU:=ae (ag k3 k4)
 clear hb3 k3 k4
 go_wp2_with fail
 refine(Xk s.heap _ _ _ _ _ _ W3 (HS.o W3 HB3.o).1.bW (HS.o W3 HB3.o).1.Fg (HS.o W3 HB3.o).1.Eh (HS.o W3 HB3.o).2.bW (HS.o W3 HB3.o).2.Fg (HS.o W3 HB3.o).2.Eh).mono ?_
 rintro e W4 ⟨rfl,hb4⟩
 have HB4:=ae (aY HB3.o hb4)
 have k3:=(hb4.block _ l5).trans FU.o.1
 have k4:=(hb4.block _ l6).trans FU.o.2
 clear c5 f5 c6 f6
 obtain⟨c7,f7,l7⟩:=af k3
 obtain⟨c8,f8,l8⟩:=af k4
 clear hb4 k3 k4
 go_wp2_with fail
 refine(Qd s.dn _ _ _ _ _ _ _ _ W4 (HS.o W4 HB4.o).1.dn (HS.o W4 HB4.o).2.dn).mono ?_
 rintro e W5 ⟨rfl,hb5⟩
 have oK:=ae (aY HB4.o hb5)
 clear hb5 c7 f7 c8 f8
 go_wp2_with fail
 go_returns
 exact⟨rfl,oK.o⟩
theorem Pm {ls:List aF} (h1:ls.length<=40) (h2: ∀l∈ls,l.length<=60):dG ls=0:=by
 unfold dG
 rw[ai]
 rintro(h|h)
 ·omega
 ·obtain⟨x,hx,h⟩:=List.any_eq_true.1 h
  have:=h2 x hx
  simp at h
  omega
theorem Xl {l:List aF} (hp:0<l.length):l[0]=l.headD []:=by
 cases l with
 |nil=>simp at hp
 |cons x xs=>rfl
theorem RJ {ls:List aF} {more:aF} (h:dG (ls++[more])=0):dG ls=0/\(ls++[more]).length<=40/\more.length<=60/\eP (ls++[more])=(qR bF (eP ls) more).1/\je (ls++[more])=je ls++[(qR bF (eP ls) more).2]:=by
 have hf:=qo h
 have h0:dG ls=0:=Pm (by have:=hf.1;simp at this;omega) fun l hl=>hf.2 l (nI _ hl)
 refine⟨h0,hf.1,hf.2 more (by simp),?_,?_⟩
 ·unfold eP;rw[aA h,aA h0,Df]
 ·unfold je eP;rw[aA h,aA h0,aA h0,Df]
theorem Ci: ∀(n:Nat) (w:World),n<=100000->Calls Tryz.prog 52 #[iv n] w (PV (.string (eu (decDigits n))) w):=by
 intro n
 induction n using Nat.strongRecOn with
 |_ n ih=>
  intro w hn
  by_cases h:n<10
  ·rw[lD h]
   have hI:(n:Int)<10:=by omega
   have hw:IntKind.u8.wrap (48+(n:Int))=48+(n:Int):=by
    have hb:(2:Int)^IntKind.u8.bits=256:=by decide
    simp only[IntKind.wrap,hb,show IntKind.u8.signed=false from rfl,Bool.false_and,Bool.false_eq_true,if_false];omega
   have hd:((Dz n).toNat:Int)=48+(n:Int):=by rw[qI h];omega
   have hcv:(convert 83 9 (.slice (some ⟨w.heap.size,0,none⟩) 1 1)).run Tryz.prog (w.alloc (.cells #[.int .u8 (48+(n:Int))] 5))= .ok (.string (eu [Dz n])) (w.alloc (.cells #[.int .u8 (48+(n:Int))] 5)):=run_convert_bytes_back _ _ _ 5 ⟨w.heap.size,0,none⟩ 1 [Dz n] Tryz.underlying83 Tryz.underlying5 Tryz.underlying9 (fun j hj=>by
    obtain rfl:j=0:=by simpa using hj
    simp only[List.getElem_cons_zero,hd]
    simp[Addr.add])
   generalize Dz n=c at*
   clear ih
   go_enter Tryz.func52,Tryz.ntmps52
   go_wp2_with fail
   go_returns
   exact⟨by simp,aj (aG _ _) _⟩
  ·rw[xm h]
   have h1:=ae (fun W=>ih (n/10) (by omega) W (by omega))
   have h2:=ae (fun W=>ih (n%10) (by omega) W (by omega))
   have hI: ¬(n:Int)<10:=by omega
   have e1:(n:Int).tdiv 10=((n/10:Nat):Int):=by rw[Int.tdiv_eq_ediv_of_nonneg (by omega)];omega
   have e2:(n:Int).tmod 10=((n%10:Nat):Int):=by rw[Int.tmod_eq_emod_of_nonneg (by omega)];omega
   have hd2:decDigits (n%10)=[Dz (n%10)]:=lD (by omega)
   have hl:=Ie 4 (n/10) (by omega)
   rw[hd2] at h2
   have ha:n/10<=10000:=by omega
   have hb:n%10<10:=by omega
   clear ih
   generalize n/10=a at*
   generalize n%10=b at*
   go_enter Tryz.func52,Tryz.ntmps52
   go_wp2_with fail
   refine(h1.o w).mono ?_
   rintro e W1 ⟨rfl,hB⟩
   have HB1:=ae hB
   clear hB
   go_wp2_with fail
   refine(h2.o W1).mono ?_
   rintro e W2 ⟨rfl,hB⟩
   have HB2:=ae (aY HB1.o hB)
   clear hB
   have hadd:=fun W=>kT (P:=Tryz.prog) (a:=decDigits a) (b:=[Dz b]) rfl (by simp;omega) W
   go_wp2_with fail
   go_returns
   exact⟨by simp[yQ],HB2.o⟩
theorem nD {k:Nat} (h:k<10000):(decDigits k).length<=4:=Ie 3 k (by omega)
theorem WO: ∀(ns:List Nat) (w:aF),(∀k∈ns,k<10000)->(qL w ns).length<=w.length+5*ns.length:=by
 intro ns
 induction ns with
 |nil=>intro w _;exact ak _
 |cons k ns ih=>
  intro w h
  have:=ih (w++(32::decDigits k)) fun x hx=>h x (pV _ hx)
  have h5:=nD (h k (List.mem_cons_self ..))
  unfold qL at this⊢
  rw[List.foldl_cons]
  simp only[dA,List.length_cons] at this⊢
  omega
theorem aaK {ls:List aF} (h1:ls.length<=40) (h2: ∀l∈ls,l.length<=60):dG ls=0:=by
 unfold dG
 rw[ai]
 rintro(h|h)
 ·omega
 ·obtain⟨x,hx,h⟩:=List.any_eq_true.1 h
  have:=h2 x hx
  simp at h
  omega
theorem Zq {ls:List aF} (h0:dG ls=0) (h37:ls.length<=38) {a b:aF} (ha:a.length<=60) (hb:b.length<=60) {s1 s2:jF} (h1:qR bF (eP ls) a=(s1,0)) (h2:qR bF s1 b=(s2,0)):
 dG (ls++[a,b])=0/\eP (ls++[a,b])=s2/\je (ls++[a,b])=je ls++[0,0]/\(je ls).length=ls.length:=by
 have hf:dG (ls++[a,b])=0:=aaK (by simp;omega) fun l hl=>by
  rcases iI.1 hl with hl|hl
  ·exact(qo h0).2 l hl
  ·simp at hl
   rcases hl with rfl|rfl
   ·exact ha
   ·exact hb
 have e:fK bF ed (ls++[a,b])=(s2,(fK bF ed ls).2++[0,0]):=by
  unfold eP at h1
  rw[aA h0] at h1
  rw[Og]
  simp only[fK,h1,h2]
 refine⟨hf,?_,?_,?_⟩
 ·unfold eP;rw[aA hf,e]
 ·unfold je;rw[aA hf,aA h0,e]
 ·unfold je;rw[aA h0,Gm]
theorem zu (w:aF) (k:Nat):qL w [k]=(w++[32])++decDigits k:=by simp[qL]
def aiG (r:Option aF) (w:World) (e:Ending) (W:World):Prop:=e= .returned (.tuple #[.string (eu (r.getD [])),.bool r.isSome])/\Below w.heap.size w W
theorem Q3 (s:jF) (V:SV) (es:List KE) (line:aF) (w:World) (hS:oG w s V es) (hl:line.length<=1000)
 (h1:s.led.field.ax.length<10000) (h2:s.led.notes.length<10000) (h3:s.heap.readings.length<10000) (h4:s.dn.aK.length<10000):
 Calls Tryz.prog 25 #[.agg (dw s V),.string (eu line)] w (aiG (rM s line) w):=by
 obtain⟨vt,vn,vw,vu,vr,vh,vk,vs⟩:=V
 obtain⟨q,hq⟩: ∃q,rM s line=q:=⟨_,rfl⟩
 rw[hq]
 unfold rM at hq
 have hpos:0<(bG line).length:=List.length_pos_iff.2 (jH line)
 have hw0:=Xl hpos
 obtain⟨a,ha⟩: ∃a,(bG line).headD []=a:=⟨_,rfl⟩
 rw[ha] at hq hw0
 have HQ:=ae hq
 have HW0:=ae hw0
 clear hq ha hw0
 go_enter Tryz.func25,Tryz.ntmps25
 go_upto_region 1 with(fail)
 refine dF fun W1 hW1=>?_
 have hb1:Below w.heap.size w W1:=hW1▸aj (aG _ _) _
 have k1:W1.heap[w.heap.size]? =some (.cells (dw s ⟨vt,vn,vw,vu,vr,vh,vk,vs⟩) 46 (0,0)):=hW1▸ay _ _
 have l1:w.heap.size<W1.heap.size:=(aV.1 k1).1
 have HB1:=ae hb1
 have UL:=ae k1
 clear hb1 hW1 k1
 obtain⟨qt,kt,e1⟩:=aN.open hS.vO
 obtain⟨qn,kn,e2⟩:=aN.open hS.QL
 obtain⟨qr,kr,e3⟩:=aN.open hS.Eh
 obtain⟨qs,ks,e4⟩:=aN.open hS.dn.aK
 simp only at e1 e2 e3 e4
 subst e1 e2 e3 e4
 clear hS
 go_wp2_with fail
 refine(Ah line W1 hl).mono ?_
 rintro e W2 ⟨v2,rfl,ho2,hb2⟩
 obtain⟨o2,c2,rfl⟩:=aS ho2
 obtain⟨wb,woff,rfl,hwb,hwc⟩:=zh (aN.dH ho2) hpos
 rw[HW0.o,Nat.add_zero] at hwc
 have HB2:=ae (aY HB1.o hb2)
 have KP:=ae ((hb2.block _ l1).trans UL.o)
 clear hb2 ho2 UL
 obtain⟨cc,ff,ll⟩:=af KP.o
 by_cases a1:a=jl.tally.word
 ·subst a1
  have hq:=HQ.o
  rw[aA rfl] at hq
  subst hq
  clear HQ
  have hdl:=nD h1
  have hadd:=fun W=>kT (P:=Tryz.prog) (a:=[117,110,116,97,108,108,121,32]) (b:=decDigits s.led.field.ax.length) (c:=qL jl.kF.word [s.led.field.ax.length]) (zu _ _) (by simp;omega) W
  go_wp2_with fail
  refine(Ci s.led.field.ax.length W2 (by omega)).mono ?_
  rintro e W3 ⟨rfl,hb3⟩
  have HB3:=ae (aY HB2.o hb3)
  clear hb3
  go_wp2_with fail
  go_returns
  exact⟨rfl,HB3.o⟩
 have b1:(a==[116,97,108,108,121])=false:=iO.2 a1
 by_cases a2:a=jl.note.word
 ·subst a2
  have hq:=HQ.o
  rw[ai a1,aA rfl] at hq
  subst hq
  clear HQ
  have hdl:=nD h2
  have hadd:=fun W=>kT (P:=Tryz.prog) (a:=[118,111,105,100,32]) (b:=decDigits s.led.notes.length) (c:=qL jl.void.word [s.led.notes.length]) (zu _ _) (by simp;omega) W
  clear a1
  go_wp2_with fail
  refine(Ci s.led.notes.length W2 (by omega)).mono ?_
  rintro e W3 ⟨rfl,hb3⟩
  have HB3:=ae (aY HB2.o hb3)
  clear hb3
  go_wp2_with fail
  go_returns
  exact⟨rfl,HB3.o⟩
 have b2:(a==[110,111,116,101])=false:=iO.2 a2
 by_cases a3:a=jl.turn.word
 ·subst a3
  have hq:=HQ.o
  rw[ai a1,ai a2,aA rfl] at hq
  subst hq
  clear HQ a1 a2
  have hadd:=fun W=>kT (P:=Tryz.prog) (a:=[117,110]) (b:=line) (c:=117::110::line) rfl (by simp;omega) W
  go_wp2_with fail
  go_returns
  exact⟨rfl,HB2.o⟩
 have b3:(a==[116,117,114,110])=false:=iO.2 a3
 by_cases a4:a=jl.xN.word
 ·subst a4
  have hq:=HQ.o
  rw[ai a1,ai a2,ai a3,aA rfl] at hq
  subst hq
  clear HQ
  have hdl:=nD h3
  have hadd:=fun W=>kT (P:=Tryz.prog) (a:=[117,110,114,101,97,100,32]) (b:=decDigits s.heap.readings.length) (c:=qL jl.unread.word [s.heap.readings.length]) (zu _ _) (by simp;omega) W
  clear a1 a2 a3
  go_wp2_with fail
  refine(Ci s.heap.readings.length W2 (by omega)).mono ?_
  rintro e W3 ⟨rfl,hb3⟩
  have HB3:=ae (aY HB2.o hb3)
  clear hb3
  go_wp2_with fail
  go_returns
  exact⟨rfl,HB3.o⟩
 have b4:(a==[105,114,111,110])=false:=iO.2 a4
 by_cases a5:a=jl.xK.word
 ·subst a5
  have hq:=HQ.o
  rw[ai a1,ai a2,ai a3,ai a4,aA rfl] at hq
  subst hq
  clear HQ
  have hdl:=nD h4
  have hadd:=fun W=>kT (P:=Tryz.prog) (a:=[117,110,116,114,121,32]) (b:=decDigits s.dn.aK.length) (c:=qL jl.qJ.word [s.dn.aK.length]) (zu _ _) (by simp;omega) W
  clear a1 a2 a3 a4
  go_wp2_with fail
  refine(Ci s.dn.aK.length W2 (by omega)).mono ?_
  rintro e W3 ⟨rfl,hb3⟩
  have HB3:=ae (aY HB2.o hb3)
  clear hb3
  go_wp2_with fail
  go_returns
  exact⟨rfl,HB3.o⟩
 have b5:(a==[116,114,121])=false:=iO.2 a5
 have hq:=HQ.o
 rw[ai a1,ai a2,ai a3,ai a4,ai a5] at hq
 subst hq
 clear HQ a1 a2 a3 a4 a5
 go_wp2_with fail
 go_returns
 exact⟨rfl,HB2.o⟩
theorem Ec: ∀l:aF,((bG l).map fun x=>x.length+1).sum=l.length+1
 |[]=>rfl
 |c::l=>by
  have ih:=Ec l
  by_cases h:c=32
  ·subst h
   rw[bG,aA rfl]
   simp only[List.map_cons,List.sum_cons,ih,List.length_nil,List.length_cons]
   omega
  ·obtain⟨w,ws,e1,e2⟩:=NC c l h
   rw[e2]
   rw[e1] at ih
   simp only[List.map_cons,List.sum_cons,List.length_cons] at ih⊢
   omega
theorem QZ {s:jF} (hG:gu s) {line back:aF} (h:(qR bF s line).2=0) (hb:rM s line=some back):back.length<=60:=by
 obtain⟨c,n,h1,_,_,_⟩:=Vr h
 obtain⟨p1,p2,p3,p4⟩:=ni h1
 have t5:=hG.Ae
 have n5:=hG.notes
 have r5:=hG.reads
 have c5:=hG.aK
 have one: ∀(w:aF) (k:Nat),w.length<=20->k<=5->(qL w [k]).length<=60:=fun w k hw hk=>by
  have:=WO [k] w (fun j hj=>by obtain rfl:=eU.1 hj;omega)
  simp only[List.length_cons,List.length_nil] at this
  omega
 unfold rM at hb
 simp only[p1] at hb
 split at hb
 ·obtain rfl:=iV hb;exact one _ _ (by decide) t5
 split at hb
 ·obtain rfl:=iV hb;exact one _ _ (by decide) n5
 split at hb
 ·rename_i hw
  obtain rfl:=iV hb
  have hc:c= .turn:=by revert hw;cases c <;>simp[jl.word]
  subst hc
  have hl:=zq p4
  rw[p2] at hl
  have ht:=Ec line
  cases hwd:bG line with
  |nil=>exact absurd hwd (jH line)
  |cons a ps=>
   rw[hwd] at p1 p4 hl ht
   simp only[List.headD_cons,List.tail_cons] at p1 p4 hl
   match ps,p4,hl,ht with
   |[x],p4,_,ht=>
    have hx:x.length<=4:=by
     cases hn:kZ x with
     |none=>rw[kN,hn] at p4;simp at p4
     |some v=>exact(Bq hn).2
    have ha:a.length<=4:=by rw[p1];decide
    simp only[List.map_cons,List.map_nil,List.sum_cons,List.sum_nil] at ht
    simp only[List.length_cons]
    omega
 split at hb
 ·obtain rfl:=iV hb;exact one _ _ (by decide) r5
 split at hb
 ·obtain rfl:=iV hb;exact one _ _ (by decide) c5
 cases hb
theorem Y2 {ls:List aF} {more:aF} (h:dG (ls++[more,more])=0):
 (dG ls=0/\(ls++[more,more]).length<=40/\more.length<=60)/\dG (ls++[more])=0/\je (ls++[more])=je ls++[(qR bF (eP ls) more).2]/\
 ((qR bF (eP ls) more).2=0-> ∀back,rM (eP ls) more=some back->dG (ls++[more,back])=0/\eP (ls++[more,back])=eP ls/\je (ls++[more,back])=je ls++[0,0]):=by
 have hf:=qo h
 have hl:ls.length<=38:=by have:=hf.1;simp at this;omega
 have hm:more.length<=60:=hf.2 more (by simp)
 have h1:dG (ls++[more])=0:=Pm (by simp;omega) fun l hl=>by
  rcases iI.1 hl with hl|hl
  ·exact hf.2 l (nI _ hl)
  ·obtain rfl:=eU.1 hl;exact hm
 obtain⟨h0,_,_,_,he⟩:=RJ h1
 refine⟨⟨h0,hf.1,hm⟩,h1,he,fun hc back hb=>?_⟩
 have hGS:=Gn h0
 have hd:qR bF (eP ls) more=((qR bF (eP ls) more).1,0):=by rw[<-hc]
 have hu:=Y3 hGS.1 (JA.2 hGS.2) hc hb
 have:=Zq h0 hl hm (QZ hGS.1 hc hb) hd hu
 exact⟨this.1,this.2.1,this.2.2.1⟩
theorem fU {P:Program} {w w':World} {ops:Array Oper} {rest:List Oper} {o:Oper} {a:Act} {Q:Exit->Act->World->Prop} (hw:Region.wanted o (yielded ops a.tmps)=true) (v:Value) (h:(execOp a.eval o).run P w= .ok (.value v) w') (hK:wpList P ops Q rest (a.put o.dst v) w'):wpList P ops Q (o::rest) a w:=
 wpList_step fun K hK'=>by
  rw[aA hw]
  exact xh (R:=fun v1 w1=>v1=v/\w1=w') (jf v h ⟨rfl,rfl⟩) fun v1 w1 ⟨h1,h2⟩=>by rw[h1,h2];exact hK' _ _ hK
theorem WR (l a:Nat) (h:l+2=a) (hl:l<=40):
 IntKind.i64.wrap ((l:Int)+2)=(a:Int)/\IntKind.i64.wrap ((l:Int)+1)=((l+1:Nat):Int)/\wrap64 ((l:Int)+2)=(a:Int)/\wrap64 ((l:Int)+1)=((l+1:Nat):Int):=by
 subst h
 refine⟨?_,?_,?_,?_⟩
 ·rw[IntWalk.i64_in _ ⟨by omega,by omega⟩];omega
 ·rw[IntWalk.i64_in _ ⟨by omega,by omega⟩];omega
 ·rw[IntWalk.wrap64_in _ ⟨by omega,by omega⟩];omega
 ·rw[IntWalk.wrap64_in _ ⟨by omega,by omega⟩];omega
theorem IL (ls:List aF) (lv:Value) (more:aF) (w:World) (hv:jb w lv ls) (hz:ls.length*16<=140737488351232) (hE:Env w):Calls Tryz.prog 6 #[lv,.string (eu more)] w (PV (.bool true) w):=by
 obtain⟨lo,lc,rfl⟩:=aN.open hv
 have HV:=ae (fun W (hb:Below w.heap.size w W)=>hv.below hb (ak _))
 have HE:=ae (fun W (hb:Below w.heap.size w W)=>hE.below hb (ak _))
 have VF:=ae (fun W (hb:Below w.heap.size w W)=>Qm W (hE.below hb (ak _)))
 clear hv hE
 go_enter Tryz.func6,Tryz.ntmps6
 go_wp2_with fail
 refine(wS ls _ w (HV.o w (aG w.heap.size w)) (by omega)).mono ?_
 rintro e Wma ⟨oma,cma,rfl,hom,hbm⟩
 have adf:=ae hbm
 have afD:=ae (aB (Ms:=[]) hom (Ext.az (aj (aG Wma.heap.size Wma) (.cells #[.string (eu more),.string (eu more)] 9))) (by simp))
 clear hbm hom
 go_wp2_with (at_builtin;go_loud (refine dK rfl _ _ F7 rfl w.heap.size (.slice oma ls.length cma) ls.length (aZ ls) rfl afD.o (.slice (some ⟨Wma.heap.size,0,none⟩) 2 2) 2 (aZ [more,more]) rfl (aN.dm 1 2 (ay _ _) rfl (by decide)) (yf [more,more]) (by omega) (by omega) (by have:=adf.o.size;simp;omega) ?_))
 intro v' Wna hown hgr _
 have hDn:Below (w).heap.size w Wna:=Below.grown (aj adf.o _) hgr (by have:=adf.o.size;simp;omega) (fun g e=>(bJ afD.o g e).1)
 obtain⟨Aa,hA⟩: ∃A,A=ls++[more,more]:=⟨_,rfl⟩
 have hAl:ls.length+2=Aa.length:=by rw[hA];simp
 have hAc:aZ ls++aZ [more,more]=aZ Aa:=by rw[hA];simp[aZ]
 rw[show aZ ls++[.string (eu more),.string (eu more)]=aZ Aa from hAc,hAl] at hown
 obtain⟨ona,cna,rfl⟩:=aS hown
 have amO:=ae (aY (aG w.heap.size w) hDn)
 have arH:=ae hDn
 have aiN:=ae (aN.dH hown)
 have HAa:=ae hA
 have amV:=ae hAl
 clear hown hgr hDn hA hAl hAc afD adf
 have HSH:=ae (Yk Aa _ Wna aiN.o)
 clear aiN
 go_wp2_with fail
 refine HSH.o.mono ?_
 rintro e W3 ⟨hB3,b,rfl,hb⟩
 have HB3:=ae (aY amO.o hB3)
 clear hB3 HSH
 cases b with
 |false=>
  clear hb
  go_wp2_with fail
  refine(VF.o W3 HB3.o).mono ?_
  rintro e W4 ⟨rfl,hB4⟩
  have HB4:=ae (aY HB3.o hB4)
  clear hB4
  go_wp2_with fail
  go_returns
  exact⟨by simp,HB4.o⟩
 |true=>
 have hpl:=Y2 (ls:=ls) (more:=more) (by rw[<-HAa.o];exact hb rfl)
 clear hb
 have Nr:=ae hpl
 have UJ:=ae (fun l (hl:l∈ls)=>show l.length<=1000000 by have:=(qo hpl.1.1).2 l hl;omega)
 have akR:ls.length<=38:=by have:=hpl.1.2.1;simp at this;omega
 have apE:more.length<=60:=hpl.1.2.2
 clear hpl HAa amV
 go_wp2_with fail
 refine(wS (ls) (.slice lo ls.length lc) W3 (HV.o W3 HB3.o) (by have:=akR;omega)).mono ?_
 rintro e Wlb ⟨olb,clb,rfl,hol,hbl⟩
 have ai8:=ae (aY HB3.o hbl)
 have amw:=ae (aN.dH hol)
 have arI:=ae hbl
 clear hbl hol
 go_wp2_with fail
 refine(uA (.slice olb ls.length clb) (ls) Wlb (amw.o) (HE.o Wlb ai8.o) (UJ.o) [] (by simp)).mono ?_
 rintro e W2b ⟨hb2,Vb,esb,cv,he,hX,hC⟩
 subst he
 obtain⟨cob,ccb,rfl⟩:=aS hC
 have hs2:=hb2.size
 have hS2:=hX W2b (Ext.refl _ _)
 rename_i hK
 refine hK _ _ ?_
 refine aI rfl _ (by go_simp;first|rfl|exact⟨rfl,rfl⟩) ?_
 simp only[zp]
 refine aI rfl _ (by go_simp;first|rfl|exact⟨rfl,rfl⟩) ?_
 simp only[zp]
 refine aI rfl _ (by go_simp;first|rfl|exact⟨rfl,rfl⟩) ?_
 simp only[zp]
 refine aI rfl _ (by go_simp;first|rfl|exact⟨rfl,rfl⟩) ?_
 simp only[zp]
 obtain⟨gb,hg⟩: ∃g,g=W2b.heap.size:=⟨_,rfl⟩
 refine aI rfl (w':=W2b.alloc (.cells dR 46 (0,0))) (.pointer (some ⟨gb,0,none⟩)) (by rw[hg];go_simp;try rfl) ?_
 simp only[zp]
 have hz2:(W2b.alloc (.cells dR 46 (0,0))).heap[gb]? =some (.cells dR 46 (0,0)):=by rw[hg];exact ay _ _
 refine wpList_store_row rfl _ _ _ rfl gb (dw (eP (ls)) Vb) (by as_aux_lemma=>kernel_rfl) (by as_aux_lemma=>kernel_rfl) _ dR hz2 (by kernel_rfl) (by as_aux_lemma=>kernel_rfl) (by rw[mM];exact fun u hu=>iG hS2 u (nH.2 hu)) ?_
 simp only[zp]
 refine jQ fun W3b hW3=>?_
 obtain⟨uZ,ku⟩: ∃uZ,uZ=W2b.alloc (.cells dR 46 (0,0)):=⟨_,rfl⟩
 rw[<-ku] at hW3 hz2
 have tY:Ext [gb] uZ W3b:=by rw[hW3];exact fG
 have hs3:=tY.size
 have hs2':uZ.heap.size=gb+1:=by rw[ku,hg];simp
 have lq:Below W2b.heap.size W2b W3b:=iY (by rw[ku];exact aj (aG _ _) _) tY (by omega)
 have akZ:W3b.heap[gb]? =some (.cells (dw (eP (ls)) Vb) 46 (0,0)):=by rw[hW3];exact setRow_heap _ _ _ _ _ _ hz2
 have hb3:=aY hb2 lq
 have ap0:Wlb.heap.size<=gb:=by omega
 have ahA:gb<W3b.heap.size:=by omega
 have H3b:=ae (ag hb3 (ag akZ (ag (hS2.below lq (ak _)) (aN.dH (aB (Ms:=[]) hC (Ext.az lq) (by simp))))))
 clear hX hC hW3 ku tY lq hb2 hS2 hz2 hK hs2 hs3 hs2' hg hb3
 have HB4:=ae (aY ai8.o H3b.o.1)
 go_wp2_with fail
 refine(wS ls _ W3b (HV.o W3b (HB4.o)) (by omega)).mono ?_
 rintro e Wmc ⟨omc,cmc,rfl,hom,hbm⟩
 have ade:=ae hbm
 have afC:=ae (aB (Ms:=[]) hom (Ext.az (aj (aG Wmc.heap.size Wmc) (.cells #[.string (eu more)] 9))) (by simp))
 clear hbm hom
 go_wp2_with (at_builtin;go_loud (refine dK rfl _ _ F7 rfl W3b.heap.size (.slice omc ls.length cmc) ls.length (aZ ls) rfl afC.o (.slice (some ⟨Wmc.heap.size,0,none⟩) 1 1) 1 (aZ [more]) rfl (aN.dm 1 1 (ay _ _) rfl (by decide)) (yf [more]) (by omega) (by omega) (by have:=ade.o.size;simp;omega) ?_))
 intro v' Wnc hown hgr _
 have hDn:Below (W3b).heap.size W3b Wnc:=Below.grown (aj ade.o _) hgr (by have:=ade.o.size;simp;omega) (fun g e=>(bJ afC.o g e).1)
 obtain⟨Ac,hA⟩: ∃A,A=ls++[more]:=⟨_,rfl⟩
 have hAl:ls.length+1=Ac.length:=by rw[hA];simp
 have hAc:aZ ls++aZ [more]=aZ Ac:=by rw[hA];simp[aZ]
 rw[show aZ ls++[.string (eu more)]=aZ Ac from hAc,hAl] at hown
 obtain⟨onc,cnc,rfl⟩:=aS hown
 have ai7:=ae (aY (HB4.o) hDn)
 have amI:=ae hDn
 have ama:=ae (aN.dH hown)
 have HAc:=ae hA
 have amU:=ae hAl
 clear hown hgr hDn hA hAl hAc afC ade
 have hlA: ∀l∈Ac,l.length<=1000000:=fun l hl=>by
  have:=(qo Nr.o.2.1).2 l (by rw[<-HAc.o];exact hl)
  omega
 have HLA:=ae hlA
 clear hlA
 go_wp2_with fail
 refine(uA (.slice onc Ac.length cnc) (Ac) Wnc (ama.o) (HE.o Wnc ai7.o) (HLA.o) [] (by simp)).mono ?_
 rintro e W2c ⟨hb2,Vc,esc,cv,he,hX,hC⟩
 subst he
 obtain⟨coc,ccc,rfl⟩:=aS hC
 have hs2:=hb2.size
 have hS2:=hX W2c (Ext.refl _ _)
 rename_i hK
 refine hK _ _ ?_
 refine aI rfl _ (by go_simp;first|rfl|exact⟨rfl,rfl⟩) ?_
 simp only[zp]
 refine aI rfl _ (by go_simp;first|rfl|exact⟨rfl,rfl⟩) ?_
 simp only[zp]
 refine aI rfl _ (by go_simp;first|rfl|exact⟨rfl,rfl⟩) ?_
 simp only[zp]
 refine aI rfl _ (by go_simp;first|rfl|exact⟨rfl,rfl⟩) ?_
 simp only[zp]
 obtain⟨gc,hg⟩: ∃g,g=W2c.heap.size:=⟨_,rfl⟩
 refine aI rfl (w':=W2c.alloc (.cells dR 46 (0,0))) (.pointer (some ⟨gc,0,none⟩)) (by rw[hg];go_simp;try rfl) ?_
 simp only[zp]
 have hz2:(W2c.alloc (.cells dR 46 (0,0))).heap[gc]? =some (.cells dR 46 (0,0)):=by rw[hg];exact ay _ _
 refine wpList_store_row rfl _ _ _ rfl gc (dw (eP (Ac)) Vc) (by as_aux_lemma=>kernel_rfl) (by as_aux_lemma=>kernel_rfl) _ dR hz2 (by kernel_rfl) (by as_aux_lemma=>kernel_rfl) (by rw[mM];exact fun u hu=>iG hS2 u (nH.2 hu)) ?_
 simp only[zp]
 refine jQ fun W3c hW3=>?_
 obtain⟨uZ,ku⟩: ∃uZ,uZ=W2c.alloc (.cells dR 46 (0,0)):=⟨_,rfl⟩
 rw[<-ku] at hW3 hz2
 have tY:Ext [gc] uZ W3c:=by rw[hW3];exact fG
 have hs3:=tY.size
 have hs2':uZ.heap.size=gc+1:=by rw[ku,hg];simp
 have lq:Below W2c.heap.size W2c W3c:=iY (by rw[ku];exact aj (aG _ _) _) tY (by omega)
 have akY:W3c.heap[gc]? =some (.cells (dw (eP (Ac)) Vc) 46 (0,0)):=by rw[hW3];exact setRow_heap _ _ _ _ _ _ hz2
 have hb3:=aY hb2 lq
 have apZ:Wnc.heap.size<=gc:=by omega
 have apU:gc<W3c.heap.size:=by omega
 have H3c:=ae (ag hb3 (ag akY (ag (hS2.below lq (ak _)) (aN.dH (aB (Ms:=[]) hC (Ext.az lq) (by simp))))))
 clear hX hC hW3 ku tY lq hb2 hS2 hz2 hK hs2 hs3 hs2' hg hb3
 have oK:=ae (aY ai7.o H3c.o.1)
 have acH:=aY amI.o H3c.o.1
 have hk3:=(acH.block gb ahA).trans H3b.o.2.1
 have hS3:=H3b.o.2.2.1.below acH (ak _)
 have hEc:aN 1 W3c (.slice coc (je Ac).length ccc) (je Ac).length (ah (je Ac)):=H3c.o.2.2.2
 have GX:gb<W3c.heap.size:=fZ ahA acH.size
 obtain⟨s,hs⟩: ∃s,eP ls=s:=⟨_,rfl⟩
 have hfA:dG Ac=0:=by rw[HAc.o];exact Nr.o.2.1
 have hpe:=Nr.o.2.2.1
 rw[<-HAc.o] at hpe
 have hun:=Nr.o.2.2.2
 have hGS:=Gn Nr.o.1.1
 have hel:=nN Nr.o.1.1
 rw[hs] at hpe hun hGS hk3 hS3⊢
 rw[Nr.o.1.1,hfA,nN hfA]
 rw[nN hfA] at hEc
 obtain⟨code,hcode⟩: ∃code,(qR bF s more).2=code:=⟨_,rfl⟩
 rw[hcode] at hpe hun
 have hA1:ls.length+1=Ac.length:=amU.o
 obtain⟨eb,Xz,rfl,heb,hec⟩:=aP.cell (l:=je Ac) hEc (k:=ls.length) (by rw[nN hfA];omega)
 have hlast:(je Ac)[ls.length]'(by rw[nN hfA];omega)=code:=by
  have h1:(je Ac)[ls.length]? =some code:=by
   rw[hpe,nK (by rw[hel];omega),hel,Nat.sub_self]
   rfl
  exact(ji.1 h1).2
 rw[hlast] at hec
 have HUN:=ae hun
 have HGS:=ae hGS
 have HK:=ae hk3
 have QC:=ae hel
 have HS:=ae hs
 have HST:=ae (fun W (hb:Below W3c.heap.size W3c W)=>hS3.below hb (ak _))
 have hne:((Ac.length:Int) !=(ls.length:Int)+1)=false:=by simp;omega
 clear hlast hpe hcode hEc hk3 hS3 hs hGS acH H3b H3c hun hel hfA
 go_upto_region 7 with(fail)
 refine wp_region_lit ?_
 refine wpList_load_row rfl _ _ rfl gb rfl _ _ _ _ HK.o Tryz.underlying46 rfl (by kernel_rfl) ?_
 simp only[zp]
 go_wp2_with fail
 refine(Q3 s Vb esb more W3c (HST.o W3c (aG _ _)) (by omega) (by have:=HGS.o.1.Ae;omega) (by have:=HGS.o.1.notes;omega) (by have:=HGS.o.1.reads;omega) (by have:=HGS.o.1.aK;omega)).mono ?_
 rintro e W4 ⟨rfl,hb4⟩
 have qf:=ae (aY oK.o hb4)
 have HD6:=ae hb4
 have HK4:=ae ((hb4.block gb GX).trans HK.o)
 have Np:=fZ GX hb4.size
 have hc4:=((bT hb4).1 eb (Xz+ls.length) heb).trans hec
 obtain⟨r,hr⟩: ∃r,rM s more=r:=⟨_,rfl⟩
 rw[hr] at HUN⊢
 clear hr hb4 hec hne
 by_cases hc:code=0
 rotate_left
 ·have hcb:(code !=0)=true:=by simpa using hc
  go_wp2_with fail
  refine(VF.o W4 qf.o).mono ?_
  rintro e Wz ⟨rfl,hbz⟩
  have HBZ:=ae (aY qf.o hbz)
  clear hbz
  go_wp2_with fail
  go_returns
  exact⟨by simp,HBZ.o⟩
 subst hc
 cases r with
 |none=>
  simp only[Option.isSome_none]
  go_wp2_with fail
  refine(VF.o W4 qf.o).mono ?_
  rintro e Wz ⟨rfl,hbz⟩
  have HBZ:=ae (aY qf.o hbz)
  clear hbz
  go_wp2_with fail
  go_returns
  exact⟨by simp,HBZ.o⟩
 |some back=>
 have VE:=ae (HUN.o rfl back rfl)
 simp only[Option.isSome_some,Option.getD_some]
 go_wp2_with fail
 refine(wS ls _ W4 (HV.o W4 (qf.o)) (by omega)).mono ?_
 rintro e Wmd ⟨omd,cmd,rfl,hom,hbm⟩
 have adb:=ae hbm
 have afB:=ae (aB (Ms:=[]) hom (Ext.az (aj (aG Wmd.heap.size Wmd) (.cells #[.string (eu more),.string (eu back)] 9))) (by simp))
 clear hbm hom
 go_wp2_with (at_builtin;go_loud (refine dK rfl _ _ F7 rfl W4.heap.size (.slice omd ls.length cmd) ls.length (aZ ls) rfl afB.o (.slice (some ⟨Wmd.heap.size,0,none⟩) 2 2) 2 (aZ [more,back]) rfl (aN.dm 1 2 (ay _ _) rfl (by decide)) (yf [more,back]) (by omega) (by omega) (by have:=adb.o.size;simp;omega) ?_))
 intro v' Wnd hown hgr _
 have hDn:Below (W4).heap.size W4 Wnd:=Below.grown (aj adb.o _) hgr (by have:=adb.o.size;simp;omega) (fun g e=>(bJ afB.o g e).1)
 obtain⟨Ad,hA⟩: ∃A,A=ls++[more,back]:=⟨_,rfl⟩
 have hAl:ls.length+2=Ad.length:=by rw[hA];simp
 have hAc:aZ ls++aZ [more,back]=aZ Ad:=by rw[hA];simp[aZ]
 rw[show aZ ls++[.string (eu more),.string (eu back)]=aZ Ad from hAc,hAl] at hown
 obtain⟨ond,cnd,rfl⟩:=aS hown
 have ai6:=ae (aY (qf.o) hDn)
 have amH:=ae hDn
 have al9:=ae (aN.dH hown)
 have HAd:=ae hA
 have amT:=ae hAl
 clear hown hgr hDn hA hAl hAc afB adb
 have hlD: ∀l∈Ad,l.length<=1000000:=fun l hl=>by
  have:=(qo VE.o.1).2 l (by rw[<-HAd.o];exact hl)
  omega
 have HLD:=ae hlD
 clear hlD
 go_wp2_with fail
 refine(uA (.slice ond Ad.length cnd) (Ad) Wnd (al9.o) (HE.o Wnd ai6.o) (HLD.o) [] (by simp)).mono ?_
 rintro e W2d ⟨hb2,Vd,esd,cv,he,hX,hC⟩
 subst he
 obtain⟨cod,ccd,rfl⟩:=aS hC
 have hs2:=hb2.size
 have hS2:=hX W2d (Ext.refl _ _)
 rename_i hK
 refine hK _ _ ?_
 refine aI rfl _ (by go_simp;first|rfl|exact⟨rfl,rfl⟩) ?_
 simp only[zp]
 refine aI rfl _ (by go_simp;first|rfl|exact⟨rfl,rfl⟩) ?_
 simp only[zp]
 refine aI rfl _ (by go_simp;first|rfl|exact⟨rfl,rfl⟩) ?_
 simp only[zp]
 refine aI rfl _ (by go_simp;first|rfl|exact⟨rfl,rfl⟩) ?_
 simp only[zp]
 obtain⟨gd,hg⟩: ∃g,g=W2d.heap.size:=⟨_,rfl⟩
 refine aI rfl (w':=W2d.alloc (.cells dR 46 (0,0))) (.pointer (some ⟨gd,0,none⟩)) (by rw[hg];go_simp;try rfl) ?_
 simp only[zp]
 have hz2:(W2d.alloc (.cells dR 46 (0,0))).heap[gd]? =some (.cells dR 46 (0,0)):=by rw[hg];exact ay _ _
 refine wpList_store_row rfl _ _ _ rfl gd (dw (eP (Ad)) Vd) (by as_aux_lemma=>kernel_rfl) (by as_aux_lemma=>kernel_rfl) _ dR hz2 (by kernel_rfl) (by as_aux_lemma=>kernel_rfl) (by rw[mM];exact fun u hu=>iG hS2 u (nH.2 hu)) ?_
 simp only[zp]
 refine jQ fun W3d hW3=>?_
 obtain⟨uZ,ku⟩: ∃uZ,uZ=W2d.alloc (.cells dR 46 (0,0)):=⟨_,rfl⟩
 rw[<-ku] at hW3 hz2
 have tY:Ext [gd] uZ W3d:=by rw[hW3];exact fG
 have hs3:=tY.size
 have hs2':uZ.heap.size=gd+1:=by rw[ku,hg];simp
 have lq:Below W2d.heap.size W2d W3d:=iY (by rw[ku];exact aj (aG _ _) _) tY (by omega)
 have akX:W3d.heap[gd]? =some (.cells (dw (eP (Ad)) Vd) 46 (0,0)):=by rw[hW3];exact setRow_heap _ _ _ _ _ _ hz2
 have hb3:=aY hb2 lq
 have apY:Wnd.heap.size<=gd:=by omega
 have apT:gd<W3d.heap.size:=by omega
 have H3d:=ae (ag hb3 (ag akX (ag (hS2.below lq (ak _)) (aN.dH (aB (Ms:=[]) hC (Ext.az lq) (by simp))))))
 clear hX hC hW3 ku tY lq hb2 hS2 hz2 hK hs2 hs3 hs2' hg hb3
 have Ba:=ae (aY ai6.o H3d.o.1)
 have ae1:=aY amH.o H3d.o.1
 have hk1:=(ae1.block gb Np).trans HK4.o
 have hk2:=H3d.o.2.1
 have hfD:dG Ad=0:=by rw[HAd.o];exact VE.o.1
 have hpD:eP Ad=s:=by rw[HAd.o,VE.o.2.1]
 have heD:je Ad=je ls++[0,0]:=by rw[HAd.o,VE.o.2.2]
 have hSb:=HST.o W3d (aY HD6.o ae1)
 have hSd:=H3d.o.2.2.1
 have hEd:aN 1 W3d (.slice cod (je Ad).length ccd) (je Ad).length (ah (je Ad)):=H3d.o.2.2.2
 have hA2:ls.length+2=Ad.length:=amT.o
 rw[hpD] at hk2 hSd⊢
 rw[hfD,nN hfD]
 rw[nN hfD] at hEd
 obtain⟨fb,alL,rfl,hfb,hfc⟩:=aP.cell (l:=je Ad) hEd (k:=ls.length+1) (by rw[nN hfD];omega)
 have hlast:(je Ad)[ls.length+1]'(by rw[nN hfD];omega)=0:=by
  have h1:(je Ad)[ls.length+1]? =some 0:=by
   rw[heD,nK (by rw[QC.o];omega),QC.o,Nat.add_sub_cancel_left]
   rfl
  exact(ji.1 h1).2
 rw[hlast] at hfc
 have ahE:=hfc
 rw[hA1] at ahE
 have xB:=ae (ag hk1 hk2)
 have aiO:=ae (ag hSb hSd)
 clear hlast heD hEd hk1 hk2 hSb hSd hpD hfD ae1 H3d hc4
 obtain⟨hwr2,agI,hv2,hv1⟩:=WR ls.length Ad.length hA2 (by omega)
 have hix:Ac.length<Ad.length:=by omega
 go_upto_region 11 with(fail)
 refine wp_region_lit ?_
 refine aI rfl _ (by go_simp;first|rfl|exact⟨rfl,rfl⟩) ?_
 simp only[zp]
 refine aI rfl _ (by go_simp;first|rfl|exact⟨rfl,rfl⟩) ?_
 simp only[zp]
 refine aI rfl _ (by go_simp;first|rfl|exact⟨rfl,rfl⟩) ?_
 simp only[zp]
 refine fU (by rfl) _ (by go_simp;first|rfl|exact⟨rfl,rfl⟩) ?_
 simp only[zp]
 refine fU (by rfl) _ (by go_simp;first|rfl|exact⟨rfl,rfl⟩) ?_
 simp only[zp]
 refine fU (by rfl) _ (by go_simp;first|rfl|exact⟨rfl,rfl⟩) ?_
 simp only[zp]
 refine fU (by rfl) _ (by go_simp;first|rfl|exact⟨rfl,rfl⟩) ?_
 simp only[zp]
 refine fU (by rfl) (iv (Ad.length:Int)) (by go_simp;first|rfl|(first|exact⟨hwr2,rfl⟩|simp[hwr2,hv2])) ?_
 simp only[zp]
 refine fU (by rfl) (.bool true) (by go_simp;first|rfl|(simp)) ?_
 simp only[zp]
 refine aI rfl _ (by go_simp;first|rfl|exact⟨rfl,rfl⟩) ?_
 simp only[zp]
 refine aI rfl _ (by go_simp;first|rfl|exact⟨rfl,rfl⟩) ?_
 simp only[zp]
 refine fU (by rfl) _ (by go_simp;first|rfl|exact⟨rfl,rfl⟩) ?_
 simp only[zp]
 refine fU (by rfl) _ (by go_simp;first|rfl|exact⟨rfl,rfl⟩) ?_
 simp only[zp]
 refine fU (by rfl) _ (by go_simp;first|rfl|exact⟨rfl,rfl⟩) ?_
 simp only[zp]
 refine fU (by rfl) (iv ((ls.length+1:Nat):Int)) (by go_simp;first|rfl|(first|exact⟨agI,rfl⟩|simp[agI,hv1])) ?_
 simp only[zp]
 refine fU (by rfl) (.pointer (some ⟨fb,alL+(ls.length+1),none⟩)) (by go_simp;first|rfl|(rw[if_pos hix])) ?_
 simp only[zp]
 refine fU (by rfl) (.int .i64 0) (by go_simp;first|rfl|(simp[ahE])) ?_
 simp only[zp]
 refine fU (by rfl) (.bool true) (by go_simp;first|rfl|(simp)) ?_
 simp only[zp]
 refine aI rfl _ (by go_simp;first|rfl|exact⟨rfl,rfl⟩) ?_
 simp only[zp]
 refine aI rfl _ (by go_simp;first|rfl|exact⟨rfl,rfl⟩) ?_
 simp only[zp]
 refine uQ (by rfl) _ _ rfl gb rfl _ _ _ _ xB.o.1 Tryz.underlying46 rfl (by kernel_rfl) ?_
 simp only[zp]
 refine uQ (by rfl) _ _ rfl gd rfl _ _ _ _ xB.o.2 Tryz.underlying46 rfl (by kernel_rfl) ?_
 simp only[zp]
 go_wp2_with fail
 refine(Rq s Vb Vd esb esd W3d aiO.o.1 aiO.o.2).mono ?_
 rintro e W6 ⟨rfl,hb6⟩
 have qc:=ae (aY Ba.o hb6)
 clear hb6
 go_wp2_with fail
 refine(VF.o W6 qc.o).mono ?_
 rintro e Wz ⟨rfl,hbz⟩
 have HBZ:=ae (aY qc.o hbz)
 clear hbz
 go_wp2_with fail
 go_returns
 exact⟨by simp,HBZ.o⟩
end Go.Proofs.YthbpmepjmebolaaGreatDoor.Bk
end

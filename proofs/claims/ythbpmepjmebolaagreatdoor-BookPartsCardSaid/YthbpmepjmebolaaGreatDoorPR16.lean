/-
  Texts of this claim, packed by a program: ER ES FG FH GR GQ.
-/
import Derived.WalkKit
import Derived.WalkLawsBesides
import Derived.WalkSpells
import Derived.Outline
import Derived.Handy
import Derived.KernelRfl
import Derived.Lib.Hide
import Derived.BigRegion
import Derived.Test.YthbpmepjmebolaaGreatDoorPR15
set_option maxHeartbeats 8000000
set_option maxRecDepth 100000
set_option linter.all false
section
namespace Go.Proofs.YthbpmepjmebolaaGreatDoor.Bk
open Go.RowKit Go.RG Go.SL Go.Shelf jv Go.TB Go.Proofs.YthbpmepjmebolaaGreatDoor.zS
theorem lt_mul (N a b:Int) (h0:0<=N) (h1:N<=1000) (h2:a<=b) (h3:b<=a+9):0<=N*(b-a+1)/\N*(b-a+1)<=10000:=by
 have h4:1<=b-a+1:=by omega
 have h5:b-a+1<=10:=by omega
 generalize b-a+1=d at*
 refine⟨Int.mul_nonneg h0 (by omega),?_⟩
 calc N*d<=1000*d:=Int.mul_le_mul_of_nonneg_right h1 (by omega)
  _<=1000*10:=by omega
theorem SE {l:aH} {n:List Int} (h:numsOf l=some n) (a:aH) (ha:(dB l).headD []=a):
 ((a==[114,111,119])=true/\(a==[114,97,116,101])=false/\(a==[115,116,97,114,116])=false/\(a==[119,101,116])=false/\(a==[104,101,97,112])=false/\(a==[115,116,114,111,110,103])=false)∨
 ((a==[114,111,119])=false/\(a==[114,97,116,101])=true/\(a==[115,116,97,114,116])=false/\(a==[119,101,116])=false/\(a==[104,101,97,112])=false/\(a==[115,116,114,111,110,103])=false/\n.length=1)∨
 ((a==[114,111,119])=false/\(a==[114,97,116,101])=false/\(a==[115,116,97,114,116])=false/\(a==[119,101,116])=false/\(a==[104,101,97,112])=false/\(a==[115,116,114,111,110,103])=false)∨
 ((a==[114,111,119])=false/\(a==[114,97,116,101])=false/\(a==[115,116,97,114,116])=true/\2<=n.length)∨
 ((a==[114,111,119])=false/\(a==[114,97,116,101])=false/\(a==[115,116,97,114,116])=false/\(a==[119,101,116])=true/\2<=n.length)∨
 ((a==[114,111,119])=false/\(a==[114,97,116,101])=false/\(a==[115,116,97,114,116])=false/\(a==[119,101,116])=false/\(a==[104,101,97,112])=true/\2<=n.length)∨
 ((a==[114,111,119])=false/\(a==[114,97,116,101])=false/\(a==[115,116,97,114,116])=false/\(a==[119,101,116])=false/\(a==[104,101,97,112])=false/\(a==[115,116,114,111,110,103])=true/\2<=n.length):=by
 rw[Du] at h
 cases hp:qh l with
 |none=>rw[hp] at h;cases h
 |some cn=>
  obtain⟨c,m⟩:=cn
  rw[hp] at h
  obtain rfl:=jG h
  obtain⟨h1,h2,_,_⟩:=qm hp
  rw[ha] at h1
  subst h1
  clear hp h ha
  cases c <;>simp only[kz.many,kz.word] at h2⊢ <;>first
   |exact .inl (by decide)
   |exact .inr (.inl ⟨by decide,by decide,by decide,by decide,by decide,by decide,h2⟩)
   |exact .inr (.inr (.inl (by decide)))
   |exact .inr (.inr (.inr (.inl ⟨by decide,by decide,by decide,by omega⟩)))
   |exact .inr (.inr (.inr (.inr (.inl ⟨by decide,by decide,by decide,by decide,by omega⟩))))
   |exact .inr (.inr (.inr (.inr (.inr (.inl ⟨by decide,by decide,by decide,by decide,by decide,by omega⟩)))))
   |exact .inr (.inr (.inr (.inr (.inr (.inr ⟨by decide,by decide,by decide,by decide,by decide,by decide,by omega⟩)))))
def aix (w:World) (e:Ending) (w':World):Prop:=Below w.heap.size w w'/\ ∃b,e= .returned (.bool b)
theorem YJ (ls:List aH) (v:Value) (w:World) (hv:iw w v ls) (hll:ls.length<=100) (hl: ∀x∈ls,x.length<=1000):Calls Tryz.prog 29 #[v] w (aix w):=by
 have hlen:=hv.len
 obtain⟨o,c,rfl⟩:=aN.open hv
 have HV:=ae hv
 have HL:=ae hl
 clear hv hl
 go_enter Tryz.func29,Tryz.ntmps29
 go_wp2_with fail
 go_loopw [3,4,5] (fun n r i wr=> ∃(k:Nat) (N R:Int),k<=ls.length/\i= .int .i64 k/\n= .int .i64 N/\r= .int .i64 R/\0<=N/\N<=10000/\0<=R/\R<=k/\Below w.heap.size w wr) (fun _ _ i _=>ls.length-(intOf i).toNat)
 case atStart=>exact⟨0,1,0,bQ _,rfl,rfl,rfl,by omega,by omega,by omega,by omega,aG _ _⟩
 case round=>
  obtain⟨k,N,R,hk,rfl,rfl,rfl,hN0,hN1,hR0,hR1,hB⟩:=hrel
  have HB:=ae hB
  by_cases hlt:k<ls.length
  ·obtain⟨b,off,rfl,hb,hc0⟩:=iw.cell (aN.below HV.o hB (ai _)) hlt
   obtain⟨x,hx⟩: ∃x,ls[k]=x:=⟨_,rfl⟩
   rw[hx] at hc0
   have hxl:x.length<=1000:=HL.o x (by rw[<-hx];exact cZ _)
   have HW:=ae (fun W=>Am x W hxl)
   have HNU:=ae (fun W=>L6 x W hxl)
   clear hB hx
   go_wp2_with fail
   refine(HW.o wr).mono ?_
   rintro e W2 ⟨v2,rfl,how,hB⟩
   obtain⟨o2,c2,rfl⟩:=aS how
   have hs2:=hB.size
   have ak1:=((bT hB).1 b (off+k) hb).trans hc0
   have HB2:=ae (aW HB.o hB)
   obtain⟨a,ps,hw⟩: ∃a ps,dB x=a::ps:=by
    cases h:dB x with
    |nil=>exact absurd h (kU x)
    |cons a ps=>exact⟨a,ps,rfl⟩
   have HHD:Hid ((dB x).headD []=a):=ae (by rw[hw];rfl)
   have Bg:=ae (aN.dE how)
   rw[hw] at Bg
   rw[hw,List.length_cons]
   simp only[List.length_cons] at Bg
   clear how hB hc0 hb hw HL
   go_wp2_with fail
   refine(HNU.o W2).mono ?_
   rintro e W3 ⟨hB3,v3,rfl,hv3⟩
   have hs3:=hB3.size
   have HB4:=ae (aW HB2.o hB3)
   have HO3:=ae (aN.below Bg.o hB3 (ai _))
   obtain⟨b2,aoC,rfl,hb2,hc3⟩:=iw.cell (l:=a::ps) HO3.o (k:=0) (by simp)
   simp only[List.getElem_cons_zero,Nat.add_zero] at hc3
   clear hB3 ak1
   rcases hv3 with⟨hq,rfl⟩|⟨ns,hq,how⟩
   ·rw[hq]
    clear hq
    simp only[Option.isSome_none]
    go_wp2_with fail
    go_roundw
    case rel=>exact⟨k+1,_,_,by omega,by go_num,rfl,rfl,by omega,by omega,by omega,by omega,HB4.o⟩
    case measure=>simp[intOf];omega
   ·have EY:=SE hq a HHD.o
    rw[hq]
    obtain⟨o3,c3,rfl⟩:=aS how
    have U6:=ae (aN.dE how)
    have hbd: ∀y∈ns,0<=y/\y<=9999:=by
     rw[Du] at hq
     cases hp:qh x with
     |none=>rw[hp] at hq;cases hq
     |some cn=>
      rw[hp] at hq
      obtain rfl:=jG hq
      exact(qm (c:=cn.1) (n:=cn.2) hp).2.2.1
    have hnl:ns.length<=5:=by
     rw[Du] at hq
     cases hp:qh x with
     |none=>rw[hp] at hq;cases hq
     |some cn=>
      rw[hp] at hq
      obtain rfl:=jG hq
      have:=(qm (c:=cn.1) (n:=cn.2) hp).2.1
      rw[this]
      cases cn.1 <;>decide
    have NS:=ae hbd
    clear hq how hbd
    simp only[Option.isSome_some]
    rcases EY with⟨g1,g2,g3,g4,g5,g6⟩|⟨g1,g2,g3,g4,g5,g6,gl⟩|⟨g1,g2,g3,g4,g5,g6⟩|⟨g1,g2,g3,gl⟩|⟨g1,g2,g3,g4,gl⟩|⟨g1,g2,g3,g4,g5,gl⟩|⟨g1,g2,g3,g4,g5,g6,gl⟩
    ·go_wp2_with fail
     go_roundw
     case rel=>exact⟨k+1,_,_,by omega,by go_num,rfl,rfl,by omega,by omega,by omega,by omega,HB4.o⟩
     case measure=>simp[intOf];omega
    ·obtain⟨y,rfl⟩: ∃y,ns=[y]:=by
      match ns,gl with
      |[y],_=>exact⟨y,rfl⟩
     obtain⟨b3,OZ,rfl,hb3,hc4⟩:=aP.cell (l:=[y]) U6.o (k:=0) (by simp)
     simp only[List.getElem_cons_zero,Nat.add_zero] at hc4
     by_cases hy:(20:Int)<y
     ·by_cases hy5:y<=50
      ·go_wp2_with fail
       go_returns
       exact⟨HB4.o,_,rfl⟩
      ·go_wp2_with fail
       go_roundw
       case rel=>exact⟨k+1,_,_,by omega,by go_num,rfl,rfl,by omega,by omega,by omega,by omega,HB4.o⟩
       case measure=>simp[intOf];omega
     ·go_wp2_with fail
      go_roundw
      case rel=>exact⟨k+1,_,_,by omega,by go_num,rfl,rfl,by omega,by omega,by omega,by omega,HB4.o⟩
      case measure=>simp[intOf];omega
    ·go_wp2_with fail
     go_roundw
     case rel=>exact⟨k+1,_,_,by omega,by go_num,rfl,rfl,by omega,by omega,by omega,by omega,HB4.o⟩
     case measure=>simp[intOf];omega
    ·obtain⟨m,hm⟩: ∃m,ns.length=m+2:=⟨ns.length-2,by omega⟩
     obtain⟨b3,OZ,rfl,hb3,hc4⟩:=aP.cell (l:=ns) U6.o (k:=m) (by omega)
     obtain⟨b9,SK,he9,_,hc5⟩:=aP.cell (l:=ns) U6.o (k:=m+1) (by omega)
     obtain⟨rfl,rfl⟩:b9=b3/\SK=OZ:=by
      injection he9 with h
      injection h with h1 h2
      exact⟨h1.symm,h2.symm⟩
     obtain⟨xa,hxa⟩: ∃y,ns[m]=y:=⟨_,rfl⟩
     obtain⟨xb,hxb⟩: ∃y,ns[m+1]=y:=⟨_,rfl⟩
     have aeV:=NS.o xa (by rw[<-hxa];exact cZ _)
     have aeU:=NS.o xb (by rw[<-hxb];exact cZ _)
     rw[hxa] at hc4
     rw[hxb] at hc5
     rw[hm]
     have hml:m<=1000:=by omega
     have e1:(m:Int)+2-2=m:=by omega
     have e2:(m:Int)+2-1=(m:Int)+1:=by omega
     clear hxa hxb hm he9 gl
     go_wp2_with fail
     by_cases hab:xa<=xb
     ·by_cases hba:xb<=xa+9
      ·by_cases hN:N<=1000
       ·have hmul:=lt_mul N xa xb hN0 hN hab hba
        have hw64:wrap64 (N*(xb-xa+1))=N*(xb-xa+1):=IntWalk.wrap64_in _ ⟨by omega,by omega⟩
        go_region
        all_goals go_wp2_with fail
        all_goals go_roundw
        all_goals first
         |exact⟨k+1,_,_,by omega,by go_num,rfl,rfl,by omega,by omega,by omega,by omega,iC HB4.o⟩
         |(simp[intOf];omega)
       ·go_region
        all_goals go_wp2_with fail
        all_goals go_roundw
        all_goals first
         |exact⟨k+1,_,_,by omega,by go_num,rfl,rfl,by omega,by omega,by omega,by omega,iC HB4.o⟩
         |(simp[intOf];omega)
      ·go_region
       all_goals go_wp2_with fail
       all_goals go_roundw
       all_goals first
        |exact⟨k+1,_,_,by omega,by go_num,rfl,rfl,by omega,by omega,by omega,by omega,iC HB4.o⟩
        |(simp[intOf];omega)
     ·go_region
      all_goals go_wp2_with fail
      all_goals go_roundw
      all_goals first
       |exact⟨k+1,_,_,by omega,by go_num,rfl,rfl,by omega,by omega,by omega,by omega,iC HB4.o⟩
       |(simp[intOf];omega)
    ·obtain⟨m,hm⟩: ∃m,ns.length=m+2:=⟨ns.length-2,by omega⟩
     obtain⟨b3,OZ,rfl,hb3,hc4⟩:=aP.cell (l:=ns) U6.o (k:=m) (by omega)
     obtain⟨b9,SK,he9,_,hc5⟩:=aP.cell (l:=ns) U6.o (k:=m+1) (by omega)
     obtain⟨rfl,rfl⟩:b9=b3/\SK=OZ:=by
      injection he9 with h
      injection h with h1 h2
      exact⟨h1.symm,h2.symm⟩
     obtain⟨xa,hxa⟩: ∃y,ns[m]=y:=⟨_,rfl⟩
     obtain⟨xb,hxb⟩: ∃y,ns[m+1]=y:=⟨_,rfl⟩
     have aeV:=NS.o xa (by rw[<-hxa];exact cZ _)
     have aeU:=NS.o xb (by rw[<-hxb];exact cZ _)
     rw[hxa] at hc4
     rw[hxb] at hc5
     rw[hm]
     have hml:m<=1000:=by omega
     have e1:(m:Int)+2-2=m:=by omega
     have e2:(m:Int)+2-1=(m:Int)+1:=by omega
     clear hxa hxb hm he9 gl
     go_wp2_with fail
     by_cases hab:xa<=xb
     ·by_cases hba:xb<=xa+9
      ·by_cases hN:N<=1000
       ·have hmul:=lt_mul N xa xb hN0 hN hab hba
        have hw64:wrap64 (N*(xb-xa+1))=N*(xb-xa+1):=IntWalk.wrap64_in _ ⟨by omega,by omega⟩
        go_region
        all_goals go_wp2_with fail
        all_goals go_roundw
        all_goals first
         |exact⟨k+1,_,_,by omega,by go_num,rfl,rfl,by omega,by omega,by omega,by omega,iC HB4.o⟩
         |(simp[intOf];omega)
       ·go_region
        all_goals go_wp2_with fail
        all_goals go_roundw
        all_goals first
         |exact⟨k+1,_,_,by omega,by go_num,rfl,rfl,by omega,by omega,by omega,by omega,iC HB4.o⟩
         |(simp[intOf];omega)
      ·go_region
       all_goals go_wp2_with fail
       all_goals go_roundw
       all_goals first
        |exact⟨k+1,_,_,by omega,by go_num,rfl,rfl,by omega,by omega,by omega,by omega,iC HB4.o⟩
        |(simp[intOf];omega)
     ·go_region
      all_goals go_wp2_with fail
      all_goals go_roundw
      all_goals first
       |exact⟨k+1,_,_,by omega,by go_num,rfl,rfl,by omega,by omega,by omega,by omega,iC HB4.o⟩
       |(simp[intOf];omega)
    ·obtain⟨m,hm⟩: ∃m,ns.length=m+2:=⟨ns.length-2,by omega⟩
     obtain⟨b3,OZ,rfl,hb3,hc4⟩:=aP.cell (l:=ns) U6.o (k:=m) (by omega)
     obtain⟨b9,SK,he9,_,hc5⟩:=aP.cell (l:=ns) U6.o (k:=m+1) (by omega)
     obtain⟨rfl,rfl⟩:b9=b3/\SK=OZ:=by
      injection he9 with h
      injection h with h1 h2
      exact⟨h1.symm,h2.symm⟩
     obtain⟨xa,hxa⟩: ∃y,ns[m]=y:=⟨_,rfl⟩
     obtain⟨xb,hxb⟩: ∃y,ns[m+1]=y:=⟨_,rfl⟩
     have aeV:=NS.o xa (by rw[<-hxa];exact cZ _)
     have aeU:=NS.o xb (by rw[<-hxb];exact cZ _)
     rw[hxa] at hc4
     rw[hxb] at hc5
     rw[hm]
     have hml:m<=1000:=by omega
     have e1:(m:Int)+2-2=m:=by omega
     have e2:(m:Int)+2-1=(m:Int)+1:=by omega
     clear hxa hxb hm he9 gl
     go_wp2_with fail
     by_cases hab:xa<=xb
     ·by_cases hba:xb<=xa+9
      ·by_cases hN:N<=1000
       ·have hmul:=lt_mul N xa xb hN0 hN hab hba
        have hw64:wrap64 (N*(xb-xa+1))=N*(xb-xa+1):=IntWalk.wrap64_in _ ⟨by omega,by omega⟩
        go_region
        all_goals go_wp2_with fail
        all_goals go_roundw
        all_goals first
         |exact⟨k+1,_,_,by omega,by go_num,rfl,rfl,by omega,by omega,by omega,by omega,iC HB4.o⟩
         |(simp[intOf];omega)
       ·go_region
        all_goals go_wp2_with fail
        all_goals go_roundw
        all_goals first
         |exact⟨k+1,_,_,by omega,by go_num,rfl,rfl,by omega,by omega,by omega,by omega,iC HB4.o⟩
         |(simp[intOf];omega)
      ·go_region
       all_goals go_wp2_with fail
       all_goals go_roundw
       all_goals first
        |exact⟨k+1,_,_,by omega,by go_num,rfl,rfl,by omega,by omega,by omega,by omega,iC HB4.o⟩
        |(simp[intOf];omega)
     ·go_region
      all_goals go_wp2_with fail
      all_goals go_roundw
      all_goals first
       |exact⟨k+1,_,_,by omega,by go_num,rfl,rfl,by omega,by omega,by omega,by omega,iC HB4.o⟩
       |(simp[intOf];omega)
    ·obtain⟨m,hm⟩: ∃m,ns.length=m+2:=⟨ns.length-2,by omega⟩
     obtain⟨b3,OZ,rfl,hb3,hc4⟩:=aP.cell (l:=ns) U6.o (k:=m) (by omega)
     obtain⟨b9,SK,he9,_,hc5⟩:=aP.cell (l:=ns) U6.o (k:=m+1) (by omega)
     obtain⟨rfl,rfl⟩:b9=b3/\SK=OZ:=by
      injection he9 with h
      injection h with h1 h2
      exact⟨h1.symm,h2.symm⟩
     obtain⟨xa,hxa⟩: ∃y,ns[m]=y:=⟨_,rfl⟩
     obtain⟨xb,hxb⟩: ∃y,ns[m+1]=y:=⟨_,rfl⟩
     have aeV:=NS.o xa (by rw[<-hxa];exact cZ _)
     have aeU:=NS.o xb (by rw[<-hxb];exact cZ _)
     rw[hxa] at hc4
     rw[hxb] at hc5
     rw[hm]
     have hml:m<=1000:=by omega
     have e1:(m:Int)+2-2=m:=by omega
     have e2:(m:Int)+2-1=(m:Int)+1:=by omega
     clear hxa hxb hm he9 gl
     go_wp2_with fail
     by_cases hab:xa<=xb
     ·by_cases hba:xb<=xa+9
      ·by_cases hN:N<=1000
       ·have hmul:=lt_mul N xa xb hN0 hN hab hba
        have hw64:wrap64 (N*(xb-xa+1))=N*(xb-xa+1):=IntWalk.wrap64_in _ ⟨by omega,by omega⟩
        go_region
        all_goals go_wp2_with fail
        all_goals go_roundw
        all_goals first
         |exact⟨k+1,_,_,by omega,by go_num,rfl,rfl,by omega,by omega,by omega,by omega,iC HB4.o⟩
         |(simp[intOf];omega)
       ·go_region
        all_goals go_wp2_with fail
        all_goals go_roundw
        all_goals first
         |exact⟨k+1,_,_,by omega,by go_num,rfl,rfl,by omega,by omega,by omega,by omega,iC HB4.o⟩
         |(simp[intOf];omega)
      ·go_region
       all_goals go_wp2_with fail
       all_goals go_roundw
       all_goals first
        |exact⟨k+1,_,_,by omega,by go_num,rfl,rfl,by omega,by omega,by omega,by omega,iC HB4.o⟩
        |(simp[intOf];omega)
     ·go_region
      all_goals go_wp2_with fail
      all_goals go_roundw
      all_goals first
       |exact⟨k+1,_,_,by omega,by go_num,rfl,rfl,by omega,by omega,by omega,by omega,iC HB4.o⟩
       |(simp[intOf];omega)
  ·have hkl:k=ls.length:=by omega
   subst hkl
   by_cases h60:N<=60
   ·go_wp2_with fail
    go_returns
    exact⟨HB.o,_,rfl⟩
   ·go_wp2_with fail
    go_returns
    exact⟨HB.o,_,rfl⟩
def abv (ls:List aH) (w:World) (e:Ending) (w':World):Prop:=Below w.heap.size w w'/\ ∃b,e= .returned (.bool b)/\(b=true->ed ls=0)
theorem Le (ls:List aH) (v:Value) (w:World) (hv:iw w v ls):Calls Tryz.prog 8 #[v] w (abv ls w):=by
 have HV:=ae hv
 have HT:=ae (fun W (hb:Below w.heap.size w W)=>abu ls v W (HV.o.below hb (ai _)))
 have HF:=ae (fun W (hb:Below w.heap.size w W)=>Ti ls v W (HV.o.below hb (ai _)))
 have HLT:=ae (fun W (hb:Below w.heap.size w W) (h:JG ls=true)=>YJ ls v W (HV.o.below hb (ai _)) (by have:=(vS.1 h).1;omega) (fun x hx=>by have:=(vS.1 h).2 x hx;omega))
 clear hv
 obtain⟨q,hq⟩: ∃q,JG ls=q:=⟨_,rfl⟩
 rw[hq] at HT HLT
 obtain⟨f,hf⟩: ∃f,ed ls=f:=⟨_,rfl⟩
 rw[hf] at HF
 unfold abv
 rw[hf]
 clear hq hf
 go_enter Tryz.func8,Tryz.ntmps8
 go_wp2_with fail
 refine(HT.o w (aG _ _)).mono ?_
 rintro e W1 ⟨rfl,hB1⟩
 have HB1:=ae hB1
 clear hB1
 cases q with
 |false=>
  go_wp2_with fail
  go_returns
  exact⟨HB1.o,_,rfl,fun h=>by cases h⟩
 |true=>
  go_wp2_with fail
  refine(HF.o W1 HB1.o).mono ?_
  rintro e W2 ⟨rfl,hB2⟩
  have HB2:=ae (aW HB1.o hB2)
  clear hB2
  by_cases h0:f=0
  ·subst h0
   go_wp2_with fail
   refine(HLT.o W2 HB2.o (by first|trivial|rfl)).mono ?_
   rintro e W3 ⟨hB3,b,rfl⟩
   have HB3:=ae (aW HB2.o hB3)
   clear hB3
   go_wp2_with fail
   go_returns
   exact⟨HB3.o,by cases b <;>simp⟩
  ·go_wp2_with fail
   go_returns
   exact⟨HB2.o,_,rfl,fun h=>by cases h⟩
end Go.Proofs.YthbpmepjmebolaaGreatDoor.Bk
end
section
namespace Go.Proofs.YthbpmepjmebolaaGreatDoor.Bk
open Go.Lib Go.RowKit Go.RG Go.SL Go.Shelf jv Go.TB Go.Proofs.YthbpmepjmebolaaGreatDoor.zS
theorem Fe (c:bP) (hv mV tv hu ksu tu:Value) (es ds:List KE) (w:World) (hc:nN w hv mV tv es c) (hd:nN w hu ksu tu ds c):
 Calls Tryz.prog 24 #[kv hv mV tv,kv hu ksu tu] w (PV (.bool true) w):=by
 obtain⟨ho,hcap,rfl⟩:=aN.open hc.heaps
 obtain⟨uo,aol,rfl⟩:=aN.open hd.heaps
 obtain⟨ko,aoI,rfl⟩:=aN.open hc.aT.1
 obtain⟨lo,aoE,rfl⟩:=aN.open hd.aT.1
 obtain⟨tO,aom,rfl⟩:=aN.open hc.aK
 obtain⟨so,scap,rfl⟩:=aN.open hd.aK
 have hlh:=hc.heaps.len
 have hlk:=hc.aT.1.len
 have hlt':=hc.aK.len
 have hed:ds.length=es.length:=by rw[hd.len,hc.len]
 rw[hed]
 have HED:=ae hed
 have HC:=ae (ag hc hd)
 clear hc hd hed
 go_enter Tryz.func24,Tryz.ntmps24
 go_upto_region 1 with(fail)
 refine dI fun W1 hW1=>?_
 obtain⟨hb1,k1,k2,hz1⟩:=rY hW1
 obtain⟨c1,f1,l1⟩:=af k1
 obtain⟨c2,f2',l2⟩:=af k2
 have HB1:=ae hb1
 have HK:=ae (ag k1 k2)
 clear hb1 hW1 k1 k2
 go_wp2_with fail
 go_loopw [5] (fun i wr=> ∃k:Nat,k<=(c.heaps).length/\i= .int .i64 k/\Below W1.heap.size W1 wr) (fun i _=>(c.heaps).length-(intOf i).toNat)
 case atStart=>exact⟨0,bQ _,rfl,aG _ _⟩
 case round=>
  obtain⟨k,hk,rfl,hB⟩:=hrel
  obtain⟨c7,f7,l7⟩:=af ((hB.block _ l1).trans HK.o.1)
  obtain⟨c8,f8,l8⟩:=af ((hB.block _ l2).trans HK.o.2)
  by_cases hlt:k<(c.heaps).length
  ·obtain⟨g1,o1,e1,r1,x1,x2⟩:=bJ.cell (HC.o.1.heaps.below (aW HB1.o hB) (ai _)) hlt
   obtain⟨g2,o2,e2,r2,y1,y2⟩:=bJ.cell (HC.o.2.heaps.below (aW HB1.o hB) (ai _)) hlt
   generalize (c.heaps)[k]=x at*
   have HX:=ae hB
   have wB:(k:Int)<(c.heaps).length:=by omega
   cases e1
   cases e2
   clear hB
   go_wp2_with fail
   go_region
   all_goals go_wp2_with fail
   all_goals go_roundw
   all_goals first
    |exact⟨k+1,by omega,by go_num,iC HX.o⟩
    |(simp[intOf];omega)
  ·have k9:=(hB.block _ l1).trans HK.o.1
   have k10:=(hB.block _ l2).trans HK.o.2
   have HB3:=ae (aW HB1.o hB)
   generalize wr=W3 at*
   have Dh:=ae (ag k9 k10)
   clear hB k9 k10
   go_wp2_with fail
   go_loopw [6] (fun i wr=> ∃k:Nat,k<=es.length/\i= .int .i64 k/\Below W3.heap.size W3 wr) (fun i _=>es.length-(intOf i).toNat)
   case atStart=>exact⟨0,bQ _,rfl,aG _ _⟩
   case round=>
    obtain⟨k,hk,rfl,hB⟩:=hrel
    obtain⟨c9,f9,l9⟩:=af ((hB.block _ l7).trans Dh.o.1)
    obtain⟨c10,f10,l10⟩:=af ((hB.block _ l8).trans Dh.o.2)
    by_cases hlt:k<es.length
    ·have hcw:=HC.o.1.aT.below (aW HB3.o hB) (ai _)
     have hdw:=HC.o.2.aT.below (aW HB3.o hB) (ai _)
     have aeH:k<ds.length:=by rw[HED.o];exact hlt
     obtain⟨g1,o1,e1,r1,x1⟩:=wI.cell hcw hlt
     obtain⟨g2,o2,e2,r2,y1⟩:=wI.cell hdw aeH
     have i1:=hcw.2 _ (cZ hlt)
     have i2:=hdw.2 _ (cZ aeH)
     have e3:ds[k].2=es[k].2:=by rw[HC.o.1.mem hlt,HC.o.2.mem aeH]
     rw[e3] at i2
     clear hcw hdw e3
     generalize es[k]=x at*
     generalize ds[k].1=y at*
     obtain⟨xv,xl⟩:=x
     simp only at i1 i2 x1
     obtain⟨xo,xc,rfl⟩:=aN.open i1
     obtain⟨yo,yc,rfl⟩:=aN.open i2
     have HX:=ae hB
     have HI:=ae (fun W (hb:Below wr.heap.size wr W)=>Aw xl _ _ W (i1.below hb (ai _)) (i2.below hb (ai _)))
     have wB:(k:Int)<es.length:=by omega
     cases e1
     cases e2
     clear hB i1 i2
     go_upto_region 11 with(fail)
     refine zg 12 [] none [(10,Spec.val (.bool true))] ?_
     simp only[zt]
     repeat ((first|refine zn ?_|refine zk ?_);simp only[zp])
     refine zw 35 (h:=fun W hE hF=>by
      have hE':Ext [] wr W:=hE
      exact HI.o W hE'.below) (t:=?_)
     simp only[zp]
     repeat ((first|refine zn ?_|refine zk ?_);simp only[zp])
     intro W4 hE hF
     have hb4:Below wr.heap.size wr W4:=Ext.below (show Ext [] wr W4 from hE)
     have HB4:=ae (aW HX.o hb4)
     clear hE hF hb4
     go_wp2_with fail
     go_roundw
     all_goals first
      |exact⟨k+1,by omega,by go_num,HB4.o⟩
      |(simp[intOf];omega)
    ·have k11:=(hB.block _ l7).trans Dh.o.1
     have k12:=(hB.block _ l8).trans Dh.o.2
     have nM:=ae (aW HB3.o hB)
     have hkl:k=es.length:=by omega
     generalize wr=W5 at*
     have uC:=ae (ag k11 k12)
     clear hB k11 k12
     go_wp2_with fail
     go_loopw [7] (fun i wr=> ∃k:Nat,k<=(c.aK).length/\i= .int .i64 k/\Below W5.heap.size W5 wr) (fun i _=>(c.aK).length-(intOf i).toNat)
     case atStart=>exact⟨0,bQ _,rfl,aG _ _⟩
     case round=>
      obtain⟨k,hk,rfl,hB⟩:=hrel
      obtain⟨c7,f7,l7⟩:=af ((hB.block _ l9).trans uC.o.1)
      obtain⟨c8,f8,l8⟩:=af ((hB.block _ l10).trans uC.o.2)
      by_cases hlt:k<(c.aK).length
      ·obtain⟨g1,o1,e1,r1,x1,x2,x3,x4⟩:=vK.cell (HC.o.1.aK.below (aW nM.o hB) (ai _)) hlt
       obtain⟨g2,o2,e2,r2,y1,y2,y3,y4⟩:=vK.cell (HC.o.2.aK.below (aW nM.o hB) (ai _)) hlt
       generalize (c.aK)[k]=x at*
       have HX:=ae hB
       have wB:(k:Int)<(c.aK).length:=by omega
       cases e1
       cases e2
       clear hB
       go_wp2_with fail
       go_region
       all_goals go_wp2_with fail
       all_goals go_roundw
       all_goals first
        |exact⟨k+1,by omega,by go_num,iC HX.o⟩
        |(simp[intOf];omega)
      ·skip
       have HZ:=ae (aW nM.o hB)
       have hkl:k=(c.aK).length:=by omega
       clear hB
       go_wp2_with fail
       go_returns
       exact⟨rfl,HZ.o⟩
theorem gm {P:Program} {ops:Array Oper} {rest:List Oper} {o:Oper} {a:Act} {w:World} {Q:Exit->Act->World->Prop} (hw:Region.wanted o (yielded ops a.tmps)=true) (ty:TypeId) (x:Operand) (ho:o.op= .load ty x)
 (g:Nat) (hx:a.eval x= .pointer (some ⟨g,0,none⟩)) (t:TypeId) (cs:Array Value) (fr:Nat×Nat) (d:TypeDesc) (hg:w.heap[g]? =some (.cells cs t fr))
 (hu:P.underlying ty=some d) (hd:(match d with| .struct _| .array _ _=>true|_=>false)=true) (hi:(P.info? ty).map (·.size)=some cs.size)
 (h:wpList P ops Q rest (a.put o.dst (.agg cs)) w):wpList P ops Q (o::rest) a w:=
 wpList_step fun K hK=>by rw[aF hw];exact wp_load_row ty x ho g hx t cs fr d hg hu hd hi (hK _ _ h)
theorem Ah (s:jr) (V U:SV) (es ds:List KE) (w:World) (hS:oD w s V es) (hT:oD w s U ds):
 Calls Tryz.prog 12 #[.agg (bY s V),.agg (bY s U)] w (PV (.bool true) w):=by
 obtain⟨vt,vn,vw,vu,vr,vh,vk,vs⟩:=V
 obtain⟨ut,un,uw,uu,ur,uh,uk,us⟩:=U
 have HS:=ae (fun W (hb:Below w.heap.size w W)=>ag (hS.below hb (ai _)) (hT.below hb (ai _)))
 clear hS hT
 go_enter Tryz.func12,Tryz.ntmps12
 go_upto_region 1 with(fail)
 refine dI fun W1 hW1=>?_
 obtain⟨hb1,k1,k2,hz1⟩:=rY hW1
 have l1:w.heap.size<W1.heap.size:=by omega
 have l2:w.heap.size+1<W1.heap.size:=by omega
 have HB1:=ae hb1
 have HK:=ae (ag k1 k2)
 clear hb1 hW1 k1 k2 hz1
 refine wp_region_lit ?_
 refine wpList_load_row rfl _ _ rfl w.heap.size rfl _ _ _ _ HK.o.1 Tryz.underlying46 rfl (by kernel_rfl) ?_
 simp only[zp]
 refine wpList_load_row rfl _ _ rfl (w.heap.size+1) rfl _ _ _ _ HK.o.2 Tryz.underlying46 rfl (by kernel_rfl) ?_
 simp only[zp]
 go_wp2_with fail
 refine(xk s s _ _ W1 (HS.o W1 HB1.o).1.uB (HS.o W1 HB1.o).2.uB rfl).mono ?_
 rintro e W2 ⟨rfl,hb2⟩
 have HB2:=ae (aW HB1.o hb2)
 have k3:=(hb2.block _ l1).trans HK.o.1
 have k4:=(hb2.block _ l2).trans HK.o.2
 obtain⟨c3,f3,l3⟩:=af k3
 obtain⟨c4,f4,l4⟩:=af k4
 have Lp:=ae (ag k3 k4)
 clear hb2 k3 k4
 go_wp2_with fail
 refine(zf s.led s.led _ _ _ _ W2 (HS.o W2 HB2.o).1.Je (HS.o W2 HB2.o).2.Je rfl rfl rfl).mono ?_
 rintro e W3 ⟨rfl,hb3⟩
 have HB3:=ae (aW HB2.o hb3)
 have k3:=(hb3.block _ l3).trans Lp.o.1
 have k4:=(hb3.block _ l4).trans Lp.o.2
 clear c3 f3 c4 f4
 obtain⟨c5,f5,l5⟩:=af k3
 obtain⟨c6,f6,l6⟩:=af k4
 have Dh:=ae (ag k3 k4)
 clear hb3 k3 k4
 go_wp2_with fail
 refine(KF s.heap _ _ _ _ _ _ W3 (HS.o W3 HB3.o).1.bU (HS.o W3 HB3.o).1.Ac (HS.o W3 HB3.o).1.Ak (HS.o W3 HB3.o).2.bU (HS.o W3 HB3.o).2.Ac (HS.o W3 HB3.o).2.Ak).mono ?_
 rintro e W4 ⟨rfl,hb4⟩
 have HB4:=ae (aW HB3.o hb4)
 have k3:=(hb4.block _ l5).trans Dh.o.1
 have k4:=(hb4.block _ l6).trans Dh.o.2
 clear c5 f5 c6 f6
 obtain⟨c7,f7,l7⟩:=af k3
 obtain⟨c8,f8,l8⟩:=af k4
 clear hb4 k3 k4
 go_wp2_with fail
 refine(Fe s.dn _ _ _ _ _ _ _ _ W4 (HS.o W4 HB4.o).1.dn (HS.o W4 HB4.o).2.dn).mono ?_
 rintro e W5 ⟨rfl,hb5⟩
 have nM:=ae (aW HB4.o hb5)
 clear hb5 c7 f7 c8 f8
 go_wp2_with fail
 go_returns
 exact⟨rfl,nM.o⟩
abbrev pz (ls:List aH):List aH:=xy aZ dA ls
theorem oN {ls:List aH} (h:ed ls=0):(jY ls).length=ls.length:=by unfold jY;rw[aF h,Gw]
theorem WS {ls:List aH} (h:ed ls=0) {k:Nat} (hk:k<ls.length):(jY ls)[k]'(by rw[oN h];exact hk)=(qM aZ (dQ aZ dA (ls.take k)).1 ls[k]).2:=by
 have e:jY ls=(dQ aZ dA (ls.take (k+1))).2++(dQ aZ (dQ aZ dA (ls.take (k+1))).1 (ls.drop (k+1))).2:=by
  unfold jY
  rw[aF h]
  conv=>lhs;rw[<-List.take_append_drop (k+1) ls,OL]
 have e2:(dQ aZ dA (ls.take (k+1))).2=(dQ aZ dA (ls.take k)).2++[(qM aZ (dQ aZ dA (ls.take k)).1 ls[k]).2]:=by rw[iE hk,zy]
 have hl:(dQ aZ dA (ls.take k)).2.length=k:=by rw[Gw,gu];omega
 have:(jY ls)[k]? =some (qM aZ (dQ aZ dA (ls.take k)).1 ls[k]).2:=by
  rw[e,e2,nC,nG (by omega),hl,Nat.sub_self]
  rfl
 exact(jf.1 this).2
theorem Jt {ls:List aH} {k:Nat} (hk:k<ls.length):pz (ls.take (k+1))=pz (ls.take k)++(if(qM aZ (dQ aZ dA (ls.take k)).1 ls[k]).2=0 then[ls[k]] else[]):=by
 unfold pz
 rw[iE hk,ac9]
 rfl
def aiy (ls:List aH) (w:World) (e:Ending) (w':World):Prop:=
 Below w.heap.size w w'/\ ∃o c V es,e= .returned (.tuple #[.slice o (pz ls).length c,.agg (bY (eQ ls) V),.bool true])/\iw w' (.slice o (pz ls).length c) (pz ls)/\oD w' (eQ ls) V es
theorem Aj (ls:List aH) (lv:Value) (w:World) (hv:iw w lv ls) (hE:Env w) (hf0:ed ls=0):Calls Tryz.prog 10 #[lv] w (aiy ls w):=by
 obtain⟨lo,lc,rfl⟩:=aN.open hv
 have HV:=ae (fun W (hb:Below w.heap.size w W)=>hv.below hb (ai _))
 have HE:=ae (fun W (hb:Below w.heap.size w W)=>hE.below hb (ai _))
 have apd:=(qw hf0).1
 have VZ:=ae hf0
 have Q4:=ae (fun l (hl:l∈ls)=>show l.length<=1000000 by have:=(qw hf0).2 l hl;omega)
 clear hv hE hf0
 go_enter Tryz.func10,Tryz.ntmps10
 go_upto_region 1 with(fail)
 refine dI fun W1 hW1=>?_
 have hb1:Below w.heap.size w W1:=by rw[hW1];exact aj (aG _ _) _
 have hk1:W1.heap[w.heap.size]? =some (.cells df 46 (0,0)):=by rw[hW1];exact ax _ _
 have hs1:w.heap.size<W1.heap.size:=by rw[hW1];simp
 have HB1:=ae hb1
 have VY:=ae hk1
 clear hW1 hb1 hk1
 go_wp2_with fail
 refine(wV ls _ W1 (HV.o W1 HB1.o) (by omega)).mono ?_
 rintro e W2 ⟨o2,c2,rfl,ho2,hb2⟩
 have HB2:=ae (aW HB1.o hb2)
 have HL2:=ae (aN.dE ho2)
 have Lp:=ae ((hb2.block _ hs1).trans VY.o)
 have agR:w.heap.size<W2.heap.size:=eu hs1 hb2.size
 clear hb2 ho2
 go_wp2_with fail
 refine(uy (.slice o2 ls.length c2) (ls) W2 (HL2.o) (HE.o W2 HB2.o) (Q4.o) [w.heap.size] (by intro m hm;simp at hm;omega)).mono ?_
 rintro e Bi ⟨hb2,Va,esa,cv,he,hX,hC⟩
 subst he
 obtain⟨coa,cca,rfl⟩:=aS hC
 have hs2:=hb2.size
 have hS2:=hX Bi (Ext.refl _ _)
 rename_i hK
 refine hK _ _ ?_
 refine ay rfl _ (by go_simp;first|rfl|exact⟨rfl,rfl⟩) ?_
 simp only[zp]
 refine ay rfl _ (by go_simp;first|rfl|exact⟨rfl,rfl⟩) ?_
 simp only[zp]
 refine ay rfl _ (by go_simp;first|rfl|exact⟨rfl,rfl⟩) ?_
 simp only[zp]
 refine ay rfl _ (by go_simp;first|rfl|exact⟨rfl,rfl⟩) ?_
 simp only[zp]
 obtain⟨ga,hg⟩: ∃g,g=Bi.heap.size:=⟨_,rfl⟩
 refine ay rfl (w':=Bi.alloc (.cells df 46 (0,0))) (.pointer (some ⟨ga,0,none⟩)) (by rw[hg];go_simp;try rfl) ?_
 simp only[zp]
 have hz2:(Bi.alloc (.cells df 46 (0,0))).heap[ga]? =some (.cells df 46 (0,0)):=by rw[hg];exact ax _ _
 refine wpList_store_row rfl _ _ _ rfl ga (bY (eQ (ls)) Va) (by as_aux_lemma=>kernel_rfl) (by as_aux_lemma=>kernel_rfl) _ df hz2 (by kernel_rfl) (by as_aux_lemma=>kernel_rfl) (by rw[kF];exact fun u hu=>fZ hS2 u (kM.2 hu)) ?_
 simp only[zp]
 refine jb fun ve hW3=>?_
 obtain⟨pW,iV⟩: ∃pW,pW=Bi.alloc (.cells df 46 (0,0)):=⟨_,rfl⟩
 rw[<-iV] at hW3 hz2
 have pO:Ext [ga] pW ve:=by rw[hW3];exact dZ
 have hs3:=pO.size
 have hs2':pW.heap.size=ga+1:=by rw[iV,hg];simp
 have jh:Below Bi.heap.size Bi ve:=gZ (by rw[iV];exact aj (aG _ _) _) pO (by omega)
 have PS:ve.heap[ga]? =some (.cells (bY (eQ (ls)) Va) 46 (0,0)):=by rw[hW3];exact setRow_heap _ _ _ _ _ _ hz2
 have hb3:=aW hb2 jh
 have ahv:W2.heap.size<=ga:=by omega
 have MZ:ga<ve.heap.size:=by omega
 have I4:=ae (ag hb3 (ag PS (ag (hS2.below jh (ai _)) (aN.dE (aB (Ms:=[]) hC (Ext.aA jh) (by simp))))))
 have afr:=ae (fun W9 (hE9:Ext [w.heap.size] ve W9)=>hX W9 ((Ext.aA jh).trans hE9))
 clear hX hC hW3 iV pO jh hb2 hS2 hz2 hK hs2 hs3 hs2' hg hb3
 have HB3:=ae (aW HB2.o I4.o.1)
 have hpl:=oN VZ.o
 have hEr:aN 1 ve (.slice coa (jY ls).length cca) (jY ls).length (ah (jY ls)):=I4.o.2.2.2
 rw[hpl] at hEr⊢
 rw[VZ.o]
 have HES:=ae (fun W (hb:Below ve.heap.size ve W)=>hEr.below hb (ai _))
 have Dh:=ae (ag PS (I4.o.1.block _ agR |>.trans Lp.o))
 obtain⟨s,hs⟩: ∃s,eQ ls=s:=⟨_,rfl⟩
 rw[hs] at afr Dh⊢
 have HS:=ae hs
 have HPE:Hid ((jY ls).length=ls.length):=ae hpl
 have hs3:w.heap.size<ve.heap.size:=eu agR I4.o.1.size
 have hga:w.heap.size≠ga:=by omega
 have hne:((ls.length:Int) !=(ls.length:Int))=false:=by simp
 clear hEr hs hpl PS I4
 go_wp2_with fail
 go_loopw [8,9] (fun u i wr=> ∃k:Nat,k<=ls.length/\i= .int .i64 k/\Below ve.heap.size ve wr/\wr.ownsRow ve.heap.size 9 1 u (pz (ls.take k)).length (bM (pz (ls.take k)))) (fun _ i _=>ls.length-(intOf i).toNat)
 case atStart=>exact⟨0,bQ _,rfl,aG _ _,⟨rfl,.inl ⟨rfl,rfl⟩⟩⟩
 case round=>
  obtain⟨k,hk,rfl,hB,how⟩:=hrel
  by_cases hlt:k<ls.length
  ·obtain⟨g1,f1,e1,r1,c1⟩:=qj (HV.o wr (aW HB3.o hB)) hlt
   have hkE:k<(jY ls).length:=by rw[HPE.o];exact hlt
   obtain⟨g2,f2,e2,r2,d1⟩:=aP.cell (HES.o wr hB) hkE
   rw[WS VZ.o hlt] at d1
   have HT:=ae (Jt hlt)
   have hal:(pz (ls.take k)).length<=k:=by
    have:=VQ (st:=aZ) (ls.take k) dA
    rw[gu,Nat.min_eq_left (by omega)] at this
    exact this
   generalize (qM aZ (dQ aZ dA (ls.take k)).1 ls[k]).2=code at*
   generalize ls[k]=x at*
   obtain⟨oo,oc,rfl⟩:=aS how
   generalize hA:pz (ls.take k)=A at*
   have HB:=ae hB
   have HO:=ae how
   have wB:(k:Int)<ls.length:=by omega
   cases e1
   cases e2
   clear hB how hA hkE
   by_cases hc:code=0
   ·subst hc
    rw[aF rfl] at HT
    have HOA:=ae (aB (Ms:=[]) HO.o (Ext.aA (aj (aG wr.heap.size wr) (.cells #[.string (fD x)] 9))) (by simp))
    go_wp2_with (at_builtin;go_loud (refine dV rfl _ _ JH rfl ve.heap.size (.slice oo A.length oc) A.length (bM A) rfl HOA.o (.slice (some ⟨wr.heap.size,0,none⟩) 1 1) 1 (bM [x]) rfl (aN.dw 1 1 (ax _ _) rfl (by decide)) (Bq [x]) (by omega) (by omega) (by have:=HB.o.size;simp;omega) ?_))
    intro v' W4 hown hgr _
    have hB4:Below ve.heap.size ve W4:=Below.grown (aj HB.o _) hgr (by have:=HB.o.size;simp;omega) (fun g e=>(bH HOA.o g e).1)
    have hown4:W4.ownsRow ve.heap.size 9 1 v' (pz (ls.take (k+1))).length (bM (pz (ls.take (k+1)))):=by
     rw[HT.o,show bM (A++[x])=bM A++bM [x] from by simp[bM],dD]
     exact hown
    have HB4:=ae hB4
    have U6:=ae hown4
    clear hown hgr hB4 hown4
    go_wp2_with fail
    go_roundw
    all_goals first
     |exact⟨k+1,by omega,by go_num,HB4.o,U6.o⟩
     |(simp[intOf];omega)
   ·rw[ak hc,List.append_nil] at HT
    have hcb:(code==0)=false:=by simpa using hc
    go_wp2_with fail
    go_roundw
    all_goals first
     |exact⟨k+1,by omega,by go_num,HB.o,by rw[HT.o];exact HO.o⟩
     |(simp[intOf];omega)
  ·have hkl:k=ls.length:=by omega
   rw[hkl,List.take_length] at how
   obtain⟨oo,oc,rfl⟩:=aS how
   have HB:=ae hB
   have HO:=ae how
   clear hB how hkl
   generalize wr=W5 at*
   have k5:=(HB.o.block ga MZ).trans Dh.o.1
   have k6:=(HB.o.block _ hs3).trans Dh.o.2
   have lg5:ga<W5.heap.size:=eu MZ HB.o.size
   have uC:=ae (ag k5 k6)
   clear k5 k6
   go_upto_region 10 with(fail)
   refine zg 3 [] none [] ?_
   simp only[zt]
   repeat ((first|refine zn ?_|refine zk ?_);simp only[zp])
   refine iF (by rfl) (.agg (bY s Va)) (by rfl) (fun W hE hF=>?_) ?_
   ·exact vH _ _ rfl ga rfl _ _ _ _ ((hE.block ga lg5 (by simp)).trans uC.o.1) Tryz.underlying46 rfl (by kernel_rfl)
   simp only[zp]
   repeat ((first|refine zn ?_|refine zk ?_);simp only[zp])
   intro W6 hE hF
   have yK:Ext [] W5 W6:=hE
   have k7:=(yK.block w.heap.size (eu hs3 HB.o.size) (by simp)).trans uC.o.2
   have HS3:=afr.o ve (Ext.refl _ _)
   refine wpList_store_row rfl _ _ _ rfl w.heap.size (bY s Va) (by as_aux_lemma=>kernel_rfl) (by as_aux_lemma=>kernel_rfl) _ df k7 (by kernel_rfl) (by as_aux_lemma=>kernel_rfl) (by rw[kF];exact fun u hu=>fZ HS3 u (kM.2 hu)) ?_
   simp only[zp]
   refine jb fun W7 BV=>?_
   have yJ:Ext [w.heap.size] W6 W7:=by rw[BV];exact dZ
   have k8:W7.heap[w.heap.size]? =some (.cells (bY s Va) 46 (0,0)):=by rw[BV];exact setRow_heap _ _ _ _ _ _ k7
   have ah3:Ext [w.heap.size] ve W7:=(Ext.aA HB.o).trans ((yK.nil).trans yJ)
   have HS7:=ae (afr.o W7 ah3)
   have hb7:Below w.heap.size w W7:=gZ (aW HB3.o (aW HB.o yK.below)) yJ (ai _)
   have HO7:=ae (aN.dE (aB (Ms:=[w.heap.size]) HO.o ((yK.nil).trans yJ) (by simp;omega)))
   have xN:=ae hb7
   have xM:=ae k8
   clear BV yJ k8 ah3 hb7 k7 yK hE hF HS3
   go_wp2_with fail
   refine bodyPost_ret (v:= .tuple #[.slice oo (pz ls).length oc,.agg (bY s Va),.bool true]) ?_ rfl ?_
   ·have q1:=run_loadVar_row (P:=Tryz.prog) W7 w.heap.size 46 46 _ (0,0) _ xM.o Tryz.underlying46 rfl (by kernel_rfl)
    simp[results,Tryz.results10,asAddr,q1]
   ·exact⟨xN.o,oo,oc,Va,esa,by rw[HS.o],HO7.o,by rw[HS.o];exact HS7.o⟩
theorem P9 {ls:List aH} (h1:ls.length<=40) (h2: ∀l∈ls,l.length<=60):ed ls=0:=by
 unfold ed
 rw[ak]
 rintro(h|h)
 ·omega
 ·obtain⟨x,hx,h⟩:=List.any_eq_true.1 h
  have:=h2 x hx
  simp at h
  omega
theorem Yu {ls:List aH} (h:ed ls=0):ed (pz ls)=0/\pz (pz ls)=pz ls/\eQ (pz ls)=eQ ls:=by
 have hf:=qw h
 have hl:=VQ (st:=aZ) ls dA
 have h0:ed (pz ls)=0:=P9 (ji hl hf.1) fun l hm=>hf.2 l (ac8 ls dA l hm)
 refine⟨h0,adb ls dA,?_⟩
 unfold eQ
 rw[aF h0,aF h]
 exact(OM ls dA).1
theorem FQ (ls:List aH) (lv:Value) (w:World) (hv:iw w lv ls) (hE:Env w):Calls Tryz.prog 3 #[lv] w (PV (.bool true) w):=by
 obtain⟨lo,lc,rfl⟩:=aN.open hv
 have YP:=ae (Le ls _ w hv)
 have HV:=ae (fun W (hb:Below w.heap.size w W)=>hv.below hb (ai _))
 have HE:=ae (fun W (hb:Below w.heap.size w W)=>hE.below hb (ai _))
 have NR:=ae (fun W (hb:Below w.heap.size w W)=>Fh W (hE.below hb (ai _)))
 clear hv hE
 go_enter Tryz.func3,Tryz.ntmps3
 go_wp2_with fail
 refine YP.o.mono ?_
 rintro e W1 ⟨hB1,b,rfl,hb⟩
 have HB1:=ae hB1
 clear hB1 YP
 cases b with
 |false=>
  clear hb
  go_wp2_with fail
  refine(NR.o W1 HB1.o).mono ?_
  rintro e W2 ⟨rfl,hB2⟩
  have HB2:=ae (aW HB1.o hB2)
  clear hB2
  go_wp2_with fail
  go_returns
  exact⟨by simp,HB2.o⟩
 |true=>
 have hf0:=hb rfl
 clear hb
 have VZ:=ae hf0
 have HAC:=ae (Yu hf0)
 clear hf0
 go_wp2_with fail
 refine(Aj (ls) (.slice lo ls.length lc) W1 (HV.o W1 HB1.o) (HE.o W1 HB1.o) (VZ.o)).mono ?_
 rintro e Bi ⟨hb2,roa,rca,Va,esa,he,hL,hS2⟩
 subst he
 have hs2:=hb2.size
 rename_i hK
 refine hK _ _ ?_
 refine ay rfl _ (by go_simp;first|rfl|exact⟨rfl,rfl⟩) ?_
 simp only[zp]
 refine ay rfl _ (by go_simp;first|rfl|exact⟨rfl,rfl⟩) ?_
 simp only[zp]
 refine ay rfl _ (by go_simp;first|rfl|exact⟨rfl,rfl⟩) ?_
 simp only[zp]
 refine ay rfl _ (by go_simp;first|rfl|exact⟨rfl,rfl⟩) ?_
 simp only[zp]
 obtain⟨ga,hg⟩: ∃g,g=Bi.heap.size:=⟨_,rfl⟩
 refine ay rfl (w':=Bi.alloc (.cells df 46 (0,0))) (.pointer (some ⟨ga,0,none⟩)) (by rw[hg];go_simp;try rfl) ?_
 simp only[zp]
 refine ay rfl _ (by go_simp;first|rfl|exact⟨rfl,rfl⟩) ?_
 simp only[zp]
 have hz2:(Bi.alloc (.cells df 46 (0,0))).heap[ga]? =some (.cells df 46 (0,0)):=by rw[hg];exact ax _ _
 refine wpList_store_row rfl _ _ _ rfl ga (bY (eQ (ls)) Va) (by as_aux_lemma=>kernel_rfl) (by as_aux_lemma=>kernel_rfl) _ df hz2 (by kernel_rfl) (by as_aux_lemma=>kernel_rfl) (by rw[kF];exact fun u hu=>fZ hS2 u (kM.2 hu)) ?_
 simp only[zp]
 refine jb fun ve hW3=>?_
 obtain⟨pW,iV⟩: ∃pW,pW=Bi.alloc (.cells df 46 (0,0)):=⟨_,rfl⟩
 rw[<-iV] at hW3 hz2
 have pO:Ext [ga] pW ve:=by rw[hW3];exact dZ
 have hs3:=pO.size
 have hs2':pW.heap.size=ga+1:=by rw[iV,hg];simp
 have jh:Below Bi.heap.size Bi ve:=gZ (by rw[iV];exact aj (aG _ _) _) pO (by omega)
 have hk3:ve.heap[ga]? =some (.cells (bY (eQ (ls)) Va) 46 (0,0)):=by rw[hW3];exact setRow_heap _ _ _ _ _ _ hz2
 have MZ:ga<ve.heap.size:=by omega
 have I4:=ae (ag (aW hb2 jh) (ag hk3 (ag (hS2.below jh (ai _)) (hL.below jh (ai _)))))
 clear hW3 iV pO jh hb2 hS2 hz2 hK hs2 hs3 hs2' hg hk3 hL
 have HB3:=ae (aW HB1.o I4.o.1)
 go_wp2_with fail
 refine(Aj (pz ls) (.slice roa (pz ls).length rca) ve (I4.o.2.2.2) (HE.o ve HB3.o) (HAC.o.1)).mono ?_
 rintro e VR ⟨hb2,rob,rcb,Vb,esb,he,hL,hS2⟩
 subst he
 have hs2:=hb2.size
 rename_i hK
 refine hK _ _ ?_
 refine ay rfl _ (by go_simp;first|rfl|exact⟨rfl,rfl⟩) ?_
 simp only[zp]
 refine ay rfl _ (by go_simp;first|rfl|exact⟨rfl,rfl⟩) ?_
 simp only[zp]
 refine ay rfl _ (by go_simp;first|rfl|exact⟨rfl,rfl⟩) ?_
 simp only[zp]
 refine ay rfl _ (by go_simp;first|rfl|exact⟨rfl,rfl⟩) ?_
 simp only[zp]
 obtain⟨gb,hg⟩: ∃g,g=VR.heap.size:=⟨_,rfl⟩
 refine ay rfl (w':=VR.alloc (.cells df 46 (0,0))) (.pointer (some ⟨gb,0,none⟩)) (by rw[hg];go_simp;try rfl) ?_
 simp only[zp]
 refine ay rfl _ (by go_simp;first|rfl|exact⟨rfl,rfl⟩) ?_
 simp only[zp]
 have hz2:(VR.alloc (.cells df 46 (0,0))).heap[gb]? =some (.cells df 46 (0,0)):=by rw[hg];exact ax _ _
 refine wpList_store_row rfl _ _ _ rfl gb (bY (eQ (pz ls)) Vb) (by as_aux_lemma=>kernel_rfl) (by as_aux_lemma=>kernel_rfl) _ df hz2 (by kernel_rfl) (by as_aux_lemma=>kernel_rfl) (by rw[kF];exact fun u hu=>fZ hS2 u (kM.2 hu)) ?_
 simp only[zp]
 refine jb fun Ld hW3=>?_
 obtain⟨pW,iV⟩: ∃pW,pW=VR.alloc (.cells df 46 (0,0)):=⟨_,rfl⟩
 rw[<-iV] at hW3 hz2
 have pO:Ext [gb] pW Ld:=by rw[hW3];exact dZ
 have hs3:=pO.size
 have hs2':pW.heap.size=gb+1:=by rw[iV,hg];simp
 have jh:Below VR.heap.size VR Ld:=gZ (by rw[iV];exact aj (aG _ _) _) pO (by omega)
 have hk3:Ld.heap[gb]? =some (.cells (bY (eQ (pz ls)) Vb) 46 (0,0)):=by rw[hW3];exact setRow_heap _ _ _ _ _ _ hz2
 have aaz:gb<Ld.heap.size:=by omega
 have YW:=ae (ag (aW hb2 jh) (ag hk3 (ag (hS2.below jh (ai _)) (hL.below jh (ai _)))))
 clear hW3 iV pO jh hb2 hS2 hz2 hK hs2 hs3 hs2' hg hk3 hL
 have HB4:=ae (aW HB3.o YW.o.1)
 go_wp2_with fail
 refine(Aj (ls) (.slice lo ls.length lc) Ld (HV.o Ld HB4.o) (HE.o Ld HB4.o) (VZ.o)).mono ?_
 rintro e W2c ⟨hb2,roc,rcc,Vc,esc,he,hL,hS2⟩
 subst he
 have hs2:=hb2.size
 rename_i hK
 refine hK _ _ ?_
 refine ay rfl _ (by go_simp;first|rfl|exact⟨rfl,rfl⟩) ?_
 simp only[zp]
 refine ay rfl _ (by go_simp;first|rfl|exact⟨rfl,rfl⟩) ?_
 simp only[zp]
 refine ay rfl _ (by go_simp;first|rfl|exact⟨rfl,rfl⟩) ?_
 simp only[zp]
 refine ay rfl _ (by go_simp;first|rfl|exact⟨rfl,rfl⟩) ?_
 simp only[zp]
 obtain⟨gc,hg⟩: ∃g,g=W2c.heap.size:=⟨_,rfl⟩
 refine ay rfl (w':=W2c.alloc (.cells df 46 (0,0))) (.pointer (some ⟨gc,0,none⟩)) (by rw[hg];go_simp;try rfl) ?_
 simp only[zp]
 refine ay rfl _ (by go_simp;first|rfl|exact⟨rfl,rfl⟩) ?_
 simp only[zp]
 have hz2:(W2c.alloc (.cells df 46 (0,0))).heap[gc]? =some (.cells df 46 (0,0)):=by rw[hg];exact ax _ _
 refine wpList_store_row rfl _ _ _ rfl gc (bY (eQ (ls)) Vc) (by as_aux_lemma=>kernel_rfl) (by as_aux_lemma=>kernel_rfl) _ df hz2 (by kernel_rfl) (by as_aux_lemma=>kernel_rfl) (by rw[kF];exact fun u hu=>fZ hS2 u (kM.2 hu)) ?_
 simp only[zp]
 refine jb fun W3c hW3=>?_
 obtain⟨pW,iV⟩: ∃pW,pW=W2c.alloc (.cells df 46 (0,0)):=⟨_,rfl⟩
 rw[<-iV] at hW3 hz2
 have pO:Ext [gc] pW W3c:=by rw[hW3];exact dZ
 have hs3:=pO.size
 have hs2':pW.heap.size=gc+1:=by rw[iV,hg];simp
 have jh:Below W2c.heap.size W2c W3c:=gZ (by rw[iV];exact aj (aG _ _) _) pO (by omega)
 have hk3:W3c.heap[gc]? =some (.cells (bY (eQ (ls)) Vc) 46 (0,0)):=by rw[hW3];exact setRow_heap _ _ _ _ _ _ hz2
 have ahr:gc<W3c.heap.size:=by omega
 have H3c:=ae (ag (aW hb2 jh) (ag hk3 (ag (hS2.below jh (ai _)) (hL.below jh (ai _)))))
 clear hW3 iV pO jh hb2 hS2 hz2 hK hs2 hs3 hs2' hg hk3 hL
 have nM:=ae (aW HB4.o H3c.o.1)
 have PX:=aW YW.o.1 H3c.o.1
 have hLa:iw W3c (.slice roa (pz ls).length rca) (pz ls):=I4.o.2.2.2.below PX (ai _)
 have hLb:iw W3c (.slice rob (pz (pz ls)).length rcb) (pz (pz ls)):=YW.o.2.2.2.below H3c.o.1 (ai _)
 have k1:=(PX.block ga MZ).trans I4.o.2.1
 have k2:=(H3c.o.1.block gb aaz).trans YW.o.2.1
 have k3:=H3c.o.2.1
 have hSa:=I4.o.2.2.1.below PX (ai _)
 have hSb:=YW.o.2.2.1.below H3c.o.1 (ai _)
 have hSc:=H3c.o.2.2.1
 rw[HAC.o.2.1] at hLb⊢
 rw[HAC.o.2.2] at k2 hSb⊢
 have HLL:=ae (ag hLa hLb)
 have HK:=ae (ag k1 (ag k2 k3))
 obtain⟨s,hs⟩: ∃s,eQ ls=s:=⟨_,rfl⟩
 rw[hs] at HK hSa hSb hSc⊢
 have nV:=ae (fun W (hb:Below W3c.heap.size W3c W)=>ag (hSa.below hb (ai _)) (ag (hSb.below hb (ai _)) (hSc.below hb (ai _))))
 have la:ga<W3c.heap.size:=eu MZ PX.size
 have lb:gb<W3c.heap.size:=eu aaz H3c.o.1.size
 clear PX hLa hLb k1 k2 k3 hSa hSb hSc hs I4 YW H3c HB3 HB4
 go_wp2_with fail
 refine(Wj (pz ls) _ _ W3c HLL.o.1 HLL.o.2).mono ?_
 rintro e W4 ⟨rfl,hb4⟩
 have nK:=ae (aW nM.o hb4)
 have HD4:=ae hb4
 have k1:=(hb4.block ga la).trans HK.o.1
 have k2:=(hb4.block gb lb).trans HK.o.2.1
 have k3:=(hb4.block gc ahr).trans HK.o.2.2
 have Y8:=ae (ag k1 (ag k2 k3))
 have la4:=eu la hb4.size
 have Ku:=eu lb hb4.size
 have lc4:=eu ahr hb4.size
 clear hb4 k1 k2 k3
 rename_i hK
 refine hK _ _ ?_
 clear hK
 refine ay rfl _ (by go_simp;first|rfl|exact⟨rfl,rfl⟩) ?_
 simp only[zp]
 refine ay rfl _ (by go_simp;first|rfl|exact⟨rfl,rfl⟩) ?_
 simp only[zp]
 refine gm (by rfl) _ _ rfl ga rfl _ _ _ _ Y8.o.1 Tryz.underlying46 rfl (by kernel_rfl) ?_
 simp only[zp]
 refine gm (by rfl) _ _ rfl gb rfl _ _ _ _ Y8.o.2.1 Tryz.underlying46 rfl (by kernel_rfl) ?_
 simp only[zp]
 go_wp2_with fail
 refine(Ah s Va Vb esa esb W4 (nV.o W4 HD4.o).1 (nV.o W4 HD4.o).2.1).mono ?_
 rintro e W5 ⟨rfl,hb5⟩
 have xN:=ae (aW nK.o hb5)
 have HD5:=ae (aW HD4.o hb5)
 have k1:=(hb5.block ga la4).trans Y8.o.1
 have k3:=(hb5.block gc lc4).trans Y8.o.2.2
 have uC:=ae (ag k1 k3)
 clear hb5 k1 k3
 rename_i hK
 refine hK _ _ ?_
 clear hK
 refine ay rfl _ (by go_simp;first|rfl|exact⟨rfl,rfl⟩) ?_
 simp only[zp]
 refine ay rfl _ (by go_simp;first|rfl|exact⟨rfl,rfl⟩) ?_
 simp only[zp]
 refine gm (by rfl) _ _ rfl ga rfl _ _ _ _ uC.o.1 Tryz.underlying46 rfl (by kernel_rfl) ?_
 simp only[zp]
 refine gm (by rfl) _ _ rfl gc rfl _ _ _ _ uC.o.2 Tryz.underlying46 rfl (by kernel_rfl) ?_
 simp only[zp]
 go_wp2_with fail
 refine(Ah s Va Vc esa esc W5 (nV.o W5 HD5.o).1 (nV.o W5 HD5.o).2.2).mono ?_
 rintro e W6 ⟨rfl,hb6⟩
 have qc:=ae (aW xN.o hb6)
 clear hb6
 go_wp2_with fail
 refine(NR.o W6 qc.o).mono ?_
 rintro e W7 ⟨rfl,hb7⟩
 have qV:=ae (aW qc.o hb7)
 clear hb7
 go_wp2_with fail
 go_returns
 exact⟨by simp,qV.o⟩
theorem Mc (c:kz) (w:World):Calls Tryz.prog 19 #[.string (fD c.word)] w (PV (iv c.of) w):=by
 cases c
 all_goals
  go_enter Tryz.func19,Tryz.ntmps19
  go_wp2
  go_returns
  exact⟨rfl,aG _ _⟩
theorem Ho (h h':dh) (he:h'=h) (wv tv xv uv' sv yv:Value) (w:World) (hw:bJ w wv h.bU) (ht:aP w tv h.turns) (hx:bg w xv h.readings) (hu:bJ w uv' h'.bU) (hs:aP w sv h'.turns) (hy:bg w yv h'.readings):
 Calls Tryz.prog 23 #[jI.hv h wv tv xv,jI.hv h' uv' sv yv] w (PV (.bool true) w):=by
 subst he
 exact KF _ _ _ _ _ _ _ w hw ht hx hu hs hy
theorem A7 (c d:bP) (he:d=c) (hv mV tv hu ksu tu:Value) (es ds:List KE) (w:World) (hc:nN w hv mV tv es c) (hd:nN w hu ksu tu ds d):
 Calls Tryz.prog 24 #[kv hv mV tv,kv hu ksu tu] w (PV (.bool true) w):=by
 subst he
 exact Fe _ _ _ _ _ _ _ _ _ w hc hd
theorem XB {l:List aH} (hp:0<l.length):l[0]=l.headD []:=by
 cases l with
 |nil=>simp at hp
 |cons x xs=>rfl
theorem SA {ls:List aH} {more:aH} (h:ed (ls++[more])=0):ed ls=0/\(ls++[more]).length<=40/\more.length<=60/\eQ (ls++[more])=(qM aZ (eQ ls) more).1/\jY (ls++[more])=jY ls++[(qM aZ (eQ ls) more).2]:=by
 have hf:=qw h
 have h0:ed ls=0:=P9 (by have:=hf.1;simp at this;omega) fun l hl=>hf.2 l (nT _ hl)
 refine⟨h0,hf.1,hf.2 more (by simp),?_,?_⟩
 ·unfold eQ;rw[aF h,aF h0,zy]
 ·unfold jY eQ;rw[aF h,aF h0,aF h0,zy]
theorem Jy (ls:List aH) (lv:Value) (more:aH) (w:World) (hv:iw w lv ls) (hz:ls.length*16<=140737488351232) (hE:Env w):Calls Tryz.prog 5 #[lv,.string (fD more)] w (PV (.bool true) w):=by
 obtain⟨lo,lc,rfl⟩:=aN.open hv
 have HV:=ae (fun W (hb:Below w.heap.size w W)=>hv.below hb (ai _))
 have HE:=ae (fun W (hb:Below w.heap.size w W)=>hE.below hb (ai _))
 have NR:=ae (fun W (hb:Below w.heap.size w W)=>Fh W (hE.below hb (ai _)))
 clear hv hE
 go_enter Tryz.func5,Tryz.ntmps5
 go_wp2_with fail
 refine(wV ls _ w (HV.o w (aG _ _)) (by omega)).mono ?_
 rintro e W1 ⟨o1,c1,rfl,ho1,hb1⟩
 have HB1:=ae hb1
 have HO1:=ae (aB (Ms:=[]) ho1 (Ext.aA (aj (aG W1.heap.size W1) (.cells #[.string (fD more)] 9))) (by simp))
 clear hb1 ho1
 go_wp2_with (at_builtin;go_loud (refine dV rfl _ _ JH rfl w.heap.size (.slice o1 ls.length c1) ls.length (bM ls) rfl HO1.o (.slice (some ⟨W1.heap.size,0,none⟩) 1 1) 1 (bM [more]) rfl (aN.dw 1 1 (ax _ _) rfl (by decide)) (Bq [more]) (by omega) (by omega) (by have:=HB1.o.size;simp;omega) ?_))
 intro v' W2 hown hgr _
 have hB2:Below w.heap.size w W2:=Below.grown (aj HB1.o _) hgr (by have:=HB1.o.size;simp;omega) (fun g e=>(bH HO1.o g e).1)
 obtain⟨A,hA⟩: ∃A,A=ls++[more]:=⟨_,rfl⟩
 have hAl:ls.length+1=A.length:=by rw[hA];simp
 have hAc:bM ls++bM [more]=bM A:=by rw[hA];simp[bM]
 rw[show bM ls++[Value.string (fD more)]=bM A from hAc,hAl] at hown
 obtain⟨oA,cA,rfl⟩:=aS hown
 have HB2:=ae hB2
 have HVA:=ae (fun W (hb:Below W2.heap.size W2 W)=>(aN.dE hown).below hb (ai _))
 have HA:=ae hA
 have HAL:=ae hAl
 have YP:=ae (Le A _ W2 (aN.dE hown))
 clear hown hgr hB2 hA hAl hAc HO1 HB1
 go_wp2_with fail
 refine YP.o.mono ?_
 rintro e W3 ⟨hB3,b,rfl,hb⟩
 have HD3:=ae hB3
 have HB3:=ae (aW HB2.o hB3)
 clear hB3 YP
 cases b with
 |false=>
  clear hb
  go_wp2_with fail
  refine(NR.o W3 HB3.o).mono ?_
  rintro e W4 ⟨rfl,hB4⟩
  have HB4:=ae (aW HB3.o hB4)
  clear hB4
  go_wp2_with fail
  go_returns
  exact⟨by simp,HB4.o⟩
 |true=>
 have hfA:=hb rfl
 clear hb
 have hpl:=SA (ls:=ls) (more:=more) (by rw[<-HA.o];exact hfA)
 rw[<-HA.o] at hpl
 have HFA:=ae hfA
 have NU:=ae hpl
 have Q4:=ae (fun l (hl:l∈ls)=>show l.length<=1000000 by have:=(qw hpl.1).2 l hl;omega)
 have HLA:=ae (fun l (hl:l∈A)=>show l.length<=1000000 by have:=(qw hfA).2 l hl;omega)
 have alr:A.length<=40:=hpl.2.1
 clear hfA hpl
 go_wp2_with fail
 refine(wV (ls) (.slice lo ls.length lc) W3 (HV.o W3 HB3.o) (by have:=hz;omega)).mono ?_
 rintro e Wla ⟨ola,cla,rfl,hol,hbl⟩
 have aiZ:=ae (aW HB3.o hbl)
 have amb:=ae (aN.dE hol)
 have amo:=ae hbl
 clear hbl hol
 go_wp2_with fail
 refine(uy (.slice ola ls.length cla) (ls) Wla (amb.o) (HE.o Wla aiZ.o) (Q4.o) [] (by simp)).mono ?_
 rintro e Bi ⟨hb2,Va,esa,cv,he,hX,hC⟩
 subst he
 obtain⟨coa,cca,rfl⟩:=aS hC
 have hs2:=hb2.size
 have hS2:=hX Bi (Ext.refl _ _)
 rename_i hK
 refine hK _ _ ?_
 refine ay rfl _ (by go_simp;first|rfl|exact⟨rfl,rfl⟩) ?_
 simp only[zp]
 refine ay rfl _ (by go_simp;first|rfl|exact⟨rfl,rfl⟩) ?_
 simp only[zp]
 refine ay rfl _ (by go_simp;first|rfl|exact⟨rfl,rfl⟩) ?_
 simp only[zp]
 refine ay rfl _ (by go_simp;first|rfl|exact⟨rfl,rfl⟩) ?_
 simp only[zp]
 obtain⟨ga,hg⟩: ∃g,g=Bi.heap.size:=⟨_,rfl⟩
 refine ay rfl (w':=Bi.alloc (.cells df 46 (0,0))) (.pointer (some ⟨ga,0,none⟩)) (by rw[hg];go_simp;try rfl) ?_
 simp only[zp]
 have hz2:(Bi.alloc (.cells df 46 (0,0))).heap[ga]? =some (.cells df 46 (0,0)):=by rw[hg];exact ax _ _
 refine wpList_store_row rfl _ _ _ rfl ga (bY (eQ (ls)) Va) (by as_aux_lemma=>kernel_rfl) (by as_aux_lemma=>kernel_rfl) _ df hz2 (by kernel_rfl) (by as_aux_lemma=>kernel_rfl) (by rw[kF];exact fun u hu=>fZ hS2 u (kM.2 hu)) ?_
 simp only[zp]
 refine jb fun ve hW3=>?_
 obtain⟨pW,iV⟩: ∃pW,pW=Bi.alloc (.cells df 46 (0,0)):=⟨_,rfl⟩
 rw[<-iV] at hW3 hz2
 have pO:Ext [ga] pW ve:=by rw[hW3];exact dZ
 have hs3:=pO.size
 have hs2':pW.heap.size=ga+1:=by rw[iV,hg];simp
 have jh:Below Bi.heap.size Bi ve:=gZ (by rw[iV];exact aj (aG _ _) _) pO (by omega)
 have PS:ve.heap[ga]? =some (.cells (bY (eQ (ls)) Va) 46 (0,0)):=by rw[hW3];exact setRow_heap _ _ _ _ _ _ hz2
 have hb3:=aW hb2 jh
 have ahv:Wla.heap.size<=ga:=by omega
 have MZ:ga<ve.heap.size:=by omega
 have I4:=ae (ag hb3 (ag PS (ag (hS2.below jh (ai _)) (aN.dE (aB (Ms:=[]) hC (Ext.aA jh) (by simp))))))
 clear hX hC hW3 iV pO jh hb2 hS2 hz2 hK hs2 hs3 hs2' hg hb3
 have HB4:=ae (aW aiZ.o I4.o.1)
 have HD4:=ae (aW HD3.o (aW amo.o I4.o.1))
 go_wp2_with fail
 refine(wV (A) (.slice oA A.length cA) ve (HVA.o ve HD4.o) (by have:=alr;omega)).mono ?_
 rintro e Wlb ⟨olb,clb,rfl,hol,hbl⟩
 have aiY:=ae (aW HB4.o hbl)
 have ama:=ae (aN.dE hol)
 have amn:=ae hbl
 clear hbl hol
 go_wp2_with fail
 refine(uy (.slice olb A.length clb) (A) Wlb (ama.o) (HE.o Wlb aiY.o) (HLA.o) [] (by simp)).mono ?_
 rintro e VR ⟨hb2,Vb,esb,cv,he,hX,hC⟩
 subst he
 obtain⟨cob,ccb,rfl⟩:=aS hC
 have hs2:=hb2.size
 have hS2:=hX VR (Ext.refl _ _)
 rename_i hK
 refine hK _ _ ?_
 refine ay rfl _ (by go_simp;first|rfl|exact⟨rfl,rfl⟩) ?_
 simp only[zp]
 refine ay rfl _ (by go_simp;first|rfl|exact⟨rfl,rfl⟩) ?_
 simp only[zp]
 refine ay rfl _ (by go_simp;first|rfl|exact⟨rfl,rfl⟩) ?_
 simp only[zp]
 refine ay rfl _ (by go_simp;first|rfl|exact⟨rfl,rfl⟩) ?_
 simp only[zp]
 obtain⟨gb,hg⟩: ∃g,g=VR.heap.size:=⟨_,rfl⟩
 refine ay rfl (w':=VR.alloc (.cells df 46 (0,0))) (.pointer (some ⟨gb,0,none⟩)) (by rw[hg];go_simp;try rfl) ?_
 simp only[zp]
 have hz2:(VR.alloc (.cells df 46 (0,0))).heap[gb]? =some (.cells df 46 (0,0)):=by rw[hg];exact ax _ _
 refine wpList_store_row rfl _ _ _ rfl gb (bY (eQ (A)) Vb) (by as_aux_lemma=>kernel_rfl) (by as_aux_lemma=>kernel_rfl) _ df hz2 (by kernel_rfl) (by as_aux_lemma=>kernel_rfl) (by rw[kF];exact fun u hu=>fZ hS2 u (kM.2 hu)) ?_
 simp only[zp]
 refine jb fun Ld hW3=>?_
 obtain⟨pW,iV⟩: ∃pW,pW=VR.alloc (.cells df 46 (0,0)):=⟨_,rfl⟩
 rw[<-iV] at hW3 hz2
 have pO:Ext [gb] pW Ld:=by rw[hW3];exact dZ
 have hs3:=pO.size
 have hs2':pW.heap.size=gb+1:=by rw[iV,hg];simp
 have jh:Below VR.heap.size VR Ld:=gZ (by rw[iV];exact aj (aG _ _) _) pO (by omega)
 have akK:Ld.heap[gb]? =some (.cells (bY (eQ (A)) Vb) 46 (0,0)):=by rw[hW3];exact setRow_heap _ _ _ _ _ _ hz2
 have hb3:=aW hb2 jh
 have apt:Wlb.heap.size<=gb:=by omega
 have aaz:gb<Ld.heap.size:=by omega
 have YW:=ae (ag hb3 (ag akK (ag (hS2.below jh (ai _)) (aN.dE (aB (Ms:=[]) hC (Ext.aA jh) (by simp))))))
 clear hX hC hW3 iV pO jh hb2 hS2 hz2 hK hs2 hs3 hs2' hg hb3
 have nM:=ae (aW aiY.o YW.o.1)
 have acO:=aW amn.o YW.o.1
 have hk3:=(acO.block ga MZ).trans I4.o.2.1
 have hk4:=YW.o.2.1
 have hS3:=I4.o.2.2.1.below acO (ai _)
 have hS4:=YW.o.2.2.1
 have hEb:aN 1 Ld (.slice cob (jY A).length ccb) (jY A).length (ah (jY A)):=YW.o.2.2.2
 have la3:ga<Ld.heap.size:=eu MZ acO.size
 obtain⟨s,hs⟩: ∃s,eQ ls=s:=⟨_,rfl⟩
 have hps:=NU.o.2.2.2.1
 have hpe:=NU.o.2.2.2.2
 have hGS:=OO NU.o.1
 rw[hs] at hps hpe hGS hk3 hS3⊢
 rw[hps] at hk4 hS4⊢
 rw[NU.o.1,HFA.o,oN HFA.o]
 rw[oN HFA.o] at hEb
 obtain⟨code,hcode⟩: ∃code,(qM aZ s more).2=code:=⟨_,rfl⟩
 obtain⟨t,ht⟩: ∃t,(qM aZ s more).1=t:=⟨_,rfl⟩
 rw[hcode] at hpe
 rw[ht] at hk4 hS4⊢
 have hA1:1<=A.length:=by have:=HAL.o;omega
 obtain⟨eb,aaW,rfl,heb,hec⟩:=aP.cell (l:=jY A) hEb (k:=A.length-1) (by rw[oN HFA.o];omega)
 have hlast:(jY A)[A.length-1]'(by rw[oN HFA.o];omega)=code:=by
  have h1:(jY A)[A.length-1]? =some code:=by
   rw[hpe,nG (by rw[oN NU.o.1];have:=HAL.o;omega),oN NU.o.1,show A.length-1-ls.length=0 from by have:=HAL.o;omega]
   rfl
  exact(jf.1 h1).2
 rw[hlast] at hec
 have HDO:=ae (ag hcode ht)
 have HGS:=ae hGS
 have HK:=ae (ag hk3 hk4)
 have HST:=ae (fun W (hb:Below Ld.heap.size Ld W)=>ag (hS3.below hb (ai _)) (hS4.below hb (ai _)))
 have hne:((A.length:Int) !=(A.length:Int))=false:=by simp
 clear hlast hps hpe hcode ht hEb hk3 hk4 hS3 hS4 hs hGS acO I4 YW
 by_cases hc:code=0
 rotate_left
 ·have hcb:(code !=0)=true:=by simpa using hc
  have hts:t=s:=by
   have:=HDO.o.2
   rw[Qe (by rw[HDO.o.1];exact hc)] at this
   exact this.symm
  subst hts
  go_upto_region 9 with(fail)
  refine wp_region_lit ?_
  refine wpList_load_row rfl _ _ rfl ga rfl _ _ _ _ HK.o.1 Tryz.underlying46 rfl (by kernel_rfl) ?_
  simp only[zp]
  refine wpList_load_row rfl _ _ rfl gb rfl _ _ _ _ HK.o.2 Tryz.underlying46 rfl (by kernel_rfl) ?_
  simp only[zp]
  go_wp2_with fail
  refine(Ah t Va Vb esa esb Ld (HST.o Ld (aG _ _)).1 (HST.o Ld (aG _ _)).2).mono ?_
  rintro e W4 ⟨rfl,hb4⟩
  have nK:=ae (aW nM.o hb4)
  clear hb4
  go_wp2_with fail
  refine(NR.o W4 nK.o).mono ?_
  rintro e W5 ⟨rfl,hb5⟩
  have xN:=ae (aW nK.o hb5)
  clear hb5
  go_wp2_with fail
  go_returns
  exact⟨by simp,xN.o⟩
 subst hc
 obtain⟨c,n,hpa,_,_,hdo⟩:=aa2 HDO.o.1
 have hts:t=(iW s c n).2:=by rw[<-HDO.o.2,hdo]
 have hap:=Yt s c n
 rw[<-hts] at hap
 have hwd:=(qm hpa).1
 have hpos:0<(dB more).length:=List.length_pos_iff.2 (kU more)
 have hw0:(dB more)[0]=c.word:=(XB hpos).trans hwd
 have HW0:=ae hw0
 have NW:=ae hap
 have apa:=NU.o.2.2.1
 clear hpa hdo hts hap hwd hw0
 go_wp2_with fail
 refine(Am more Ld (by omega)).mono ?_
 rintro e W4 ⟨v4,rfl,ho4,hb4⟩
 obtain⟨o4,c4,rfl⟩:=aS ho4
 obtain⟨wb,woff,rfl,hwb,hwc⟩:=qj (aN.dE ho4) hpos
 rw[HW0.o,Nat.add_zero] at hwc
 have nK:=ae (aW nM.o hb4)
 have k1:=(hb4.block ga la3).trans HK.o.1
 have k2:=(hb4.block gb aaz).trans HK.o.2
 have la4:=eu la3 hb4.size
 have Ku:=eu aaz hb4.size
 have Y8:=ae (ag k1 k2)
 have Rk:=ae (fun W (hb:Below W4.heap.size W4 W)=>HST.o W (aW hb4 hb))
 clear ho4 hb4 k1 k2 hne nM hec
 go_wp2_with fail
 refine(Mc c W4).mono ?_
 rintro e W5 ⟨rfl,hb5⟩
 have xN:=ae (aW nK.o hb5)
 have k1:=(hb5.block ga la4).trans Y8.o.1
 have k2:=(hb5.block gb Ku).trans Y8.o.2
 have la5:=eu la4 hb5.size
 have Pj:=eu Ku hb5.size
 have uC:=ae (ag k1 k2)
 have vM:=ae (fun W (hb:Below W5.heap.size W5 W)=>Rk.o W (aW hb5 hb))
 clear hb5 k1 k2 nK hwc
 have nK:=xN
 clear xN
 obtain⟨k,hk⟩: ∃k,c.of=k:=⟨_,rfl⟩
 rw[hk] at NW⊢
 have hk4:k=1∨k=2∨k=3∨k=4:=by rw[<-hk];cases c <;>simp[kz.of]
 clear hk
 have jB:=ae (aG W5.heap.size W5)
 rcases hk4 with rfl|rfl|rfl|rfl
 ·have HP2:=ae (NW.o.2.1.resolve_left (by decide))
  have U1:=ae (NW.o.2.2.1.resolve_left (by decide))
  have HP4:=ae (NW.o.2.2.2.resolve_left (by decide))
  obtain⟨xR,KL,Kt⟩:=af ((jB.o.block ga la5).trans uC.o.1)
  obtain⟨Bh,Ic,Kr⟩:=af ((jB.o.block gb Pj).trans uC.o.2)
  go_wp2_with fail
  refine(zf s.led t.led _ _ _ _ _ (vM.o _ jB.o).1.Je (vM.o _ jB.o).2.Je HP2.o.1 HP2.o.2.1 HP2.o.2.2).mono ?_
  rintro e X1 ⟨rfl,hbx⟩
  have xE:=ae (aW jB.o hbx)
  clear jB
  have jB:=xE
  clear xE hbx
  (try clear xR KL Kt Bh Ic Kr)
  obtain⟨xR,KL,Kt⟩:=af ((jB.o.block ga la5).trans uC.o.1)
  obtain⟨Bh,Ic,Kr⟩:=af ((jB.o.block gb Pj).trans uC.o.2)
  go_wp2_with fail
  refine(Ho s.heap t.heap U1.o _ _ _ _ _ _ _ (vM.o _ jB.o).1.bU (vM.o _ jB.o).1.Ac (vM.o _ jB.o).1.Ak (vM.o _ jB.o).2.bU (vM.o _ jB.o).2.Ac (vM.o _ jB.o).2.Ak).mono ?_
  rintro e X2 ⟨rfl,hbx⟩
  have xE:=ae (aW jB.o hbx)
  clear jB
  have jB:=xE
  clear xE hbx
  (try clear xR KL Kt Bh Ic Kr)
  obtain⟨xR,KL,Kt⟩:=af ((jB.o.block ga la5).trans uC.o.1)
  obtain⟨Bh,Ic,Kr⟩:=af ((jB.o.block gb Pj).trans uC.o.2)
  go_wp2_with fail
  refine(A7 s.dn t.dn HP4.o _ _ _ _ _ _ _ _ _ (vM.o _ jB.o).1.dn (vM.o _ jB.o).2.dn).mono ?_
  rintro e X3 ⟨rfl,hbx⟩
  have xE:=ae (aW jB.o hbx)
  clear jB
  have jB:=xE
  clear xE hbx
  (try clear xR KL Kt Bh Ic Kr)
  go_wp2_with fail
  refine(NR.o _ (aW nK.o jB.o)).mono ?_
  rintro e Xz ⟨rfl,hbz⟩
  have HBZ:=ae (aW (aW nK.o jB.o) hbz)
  clear hbz
  go_wp2_with fail
  go_returns
  exact⟨by simp,HBZ.o⟩
 ·have NV:=ae (NW.o.1.resolve_left (by decide))
  have U1:=ae (NW.o.2.2.1.resolve_left (by decide))
  have HP4:=ae (NW.o.2.2.2.resolve_left (by decide))
  go_upto_region 11 with(fail)
  refine wp_region_lit ?_
  refine ay rfl _ (by go_simp;first|rfl|exact⟨rfl,rfl⟩) ?_
  simp only[zp]
  refine ay rfl _ (by go_simp;first|rfl|exact⟨rfl,rfl⟩) ?_
  simp only[zp]
  refine ay rfl _ (by go_simp;first|rfl|exact⟨rfl,rfl⟩) ?_
  simp only[zp]
  refine gm (by rfl) _ _ rfl ga rfl _ _ _ _ uC.o.1 Tryz.underlying46 rfl (by kernel_rfl) ?_
  simp only[zp]
  refine gm (by rfl) _ _ rfl gb rfl _ _ _ _ uC.o.2 Tryz.underlying46 rfl (by kernel_rfl) ?_
  simp only[zp]
  go_wp2_with fail
  refine(xk s t _ _ _ (vM.o _ jB.o).1.uB (vM.o _ jB.o).2.uB NV.o).mono ?_
  rintro e X1 ⟨rfl,hbx⟩
  have xE:=ae (aW jB.o hbx)
  clear jB
  have jB:=xE
  clear xE hbx
  (try clear xR KL Kt Bh Ic Kr)
  obtain⟨xR,KL,Kt⟩:=af ((jB.o.block ga la5).trans uC.o.1)
  obtain⟨Bh,Ic,Kr⟩:=af ((jB.o.block gb Pj).trans uC.o.2)
  go_wp2_with fail
  refine(Ho s.heap t.heap U1.o _ _ _ _ _ _ _ (vM.o _ jB.o).1.bU (vM.o _ jB.o).1.Ac (vM.o _ jB.o).1.Ak (vM.o _ jB.o).2.bU (vM.o _ jB.o).2.Ac (vM.o _ jB.o).2.Ak).mono ?_
  rintro e X2 ⟨rfl,hbx⟩
  have xE:=ae (aW jB.o hbx)
  clear jB
  have jB:=xE
  clear xE hbx
  (try clear xR KL Kt Bh Ic Kr)
  obtain⟨xR,KL,Kt⟩:=af ((jB.o.block ga la5).trans uC.o.1)
  obtain⟨Bh,Ic,Kr⟩:=af ((jB.o.block gb Pj).trans uC.o.2)
  go_wp2_with fail
  refine(A7 s.dn t.dn HP4.o _ _ _ _ _ _ _ _ _ (vM.o _ jB.o).1.dn (vM.o _ jB.o).2.dn).mono ?_
  rintro e X3 ⟨rfl,hbx⟩
  have xE:=ae (aW jB.o hbx)
  clear jB
  have jB:=xE
  clear xE hbx
  (try clear xR KL Kt Bh Ic Kr)
  go_wp2_with fail
  refine(NR.o _ (aW nK.o jB.o)).mono ?_
  rintro e Xz ⟨rfl,hbz⟩
  have HBZ:=ae (aW (aW nK.o jB.o) hbz)
  clear hbz
  go_wp2_with fail
  go_returns
  exact⟨by simp,HBZ.o⟩
 ·have NV:=ae (NW.o.1.resolve_left (by decide))
  have HP2:=ae (NW.o.2.1.resolve_left (by decide))
  have HP4:=ae (NW.o.2.2.2.resolve_left (by decide))
  go_upto_region 11 with(fail)
  refine wp_region_lit ?_
  refine ay rfl _ (by go_simp;first|rfl|exact⟨rfl,rfl⟩) ?_
  simp only[zp]
  refine ay rfl _ (by go_simp;first|rfl|exact⟨rfl,rfl⟩) ?_
  simp only[zp]
  refine ay rfl _ (by go_simp;first|rfl|exact⟨rfl,rfl⟩) ?_
  simp only[zp]
  refine gm (by rfl) _ _ rfl ga rfl _ _ _ _ uC.o.1 Tryz.underlying46 rfl (by kernel_rfl) ?_
  simp only[zp]
  refine gm (by rfl) _ _ rfl gb rfl _ _ _ _ uC.o.2 Tryz.underlying46 rfl (by kernel_rfl) ?_
  simp only[zp]
  go_wp2_with fail
  refine(xk s t _ _ _ (vM.o _ jB.o).1.uB (vM.o _ jB.o).2.uB NV.o).mono ?_
  rintro e X1 ⟨rfl,hbx⟩
  have xE:=ae (aW jB.o hbx)
  clear jB
  have jB:=xE
  clear xE hbx
  (try clear xR KL Kt Bh Ic Kr)
  obtain⟨xR,KL,Kt⟩:=af ((jB.o.block ga la5).trans uC.o.1)
  obtain⟨Bh,Ic,Kr⟩:=af ((jB.o.block gb Pj).trans uC.o.2)
  go_wp2_with fail
  refine(zf s.led t.led _ _ _ _ _ (vM.o _ jB.o).1.Je (vM.o _ jB.o).2.Je HP2.o.1 HP2.o.2.1 HP2.o.2.2).mono ?_
  rintro e X2 ⟨rfl,hbx⟩
  have xE:=ae (aW jB.o hbx)
  clear jB
  have jB:=xE
  clear xE hbx
  (try clear xR KL Kt Bh Ic Kr)
  obtain⟨xR,KL,Kt⟩:=af ((jB.o.block ga la5).trans uC.o.1)
  obtain⟨Bh,Ic,Kr⟩:=af ((jB.o.block gb Pj).trans uC.o.2)
  go_wp2_with fail
  refine(A7 s.dn t.dn HP4.o _ _ _ _ _ _ _ _ _ (vM.o _ jB.o).1.dn (vM.o _ jB.o).2.dn).mono ?_
  rintro e X3 ⟨rfl,hbx⟩
  have xE:=ae (aW jB.o hbx)
  clear jB
  have jB:=xE
  clear xE hbx
  (try clear xR KL Kt Bh Ic Kr)
  go_wp2_with fail
  refine(NR.o _ (aW nK.o jB.o)).mono ?_
  rintro e Xz ⟨rfl,hbz⟩
  have HBZ:=ae (aW (aW nK.o jB.o) hbz)
  clear hbz
  go_wp2_with fail
  go_returns
  exact⟨by simp,HBZ.o⟩
 ·have NV:=ae (NW.o.1.resolve_left (by decide))
  have HP2:=ae (NW.o.2.1.resolve_left (by decide))
  have U1:=ae (NW.o.2.2.1.resolve_left (by decide))
  go_upto_region 11 with(fail)
  refine wp_region_lit ?_
  refine ay rfl _ (by go_simp;first|rfl|exact⟨rfl,rfl⟩) ?_
  simp only[zp]
  refine ay rfl _ (by go_simp;first|rfl|exact⟨rfl,rfl⟩) ?_
  simp only[zp]
  refine ay rfl _ (by go_simp;first|rfl|exact⟨rfl,rfl⟩) ?_
  simp only[zp]
  refine gm (by rfl) _ _ rfl ga rfl _ _ _ _ uC.o.1 Tryz.underlying46 rfl (by kernel_rfl) ?_
  simp only[zp]
  refine gm (by rfl) _ _ rfl gb rfl _ _ _ _ uC.o.2 Tryz.underlying46 rfl (by kernel_rfl) ?_
  simp only[zp]
  go_wp2_with fail
  refine(xk s t _ _ _ (vM.o _ jB.o).1.uB (vM.o _ jB.o).2.uB NV.o).mono ?_
  rintro e X1 ⟨rfl,hbx⟩
  have xE:=ae (aW jB.o hbx)
  clear jB
  have jB:=xE
  clear xE hbx
  (try clear xR KL Kt Bh Ic Kr)
  obtain⟨xR,KL,Kt⟩:=af ((jB.o.block ga la5).trans uC.o.1)
  obtain⟨Bh,Ic,Kr⟩:=af ((jB.o.block gb Pj).trans uC.o.2)
  go_wp2_with fail
  refine(zf s.led t.led _ _ _ _ _ (vM.o _ jB.o).1.Je (vM.o _ jB.o).2.Je HP2.o.1 HP2.o.2.1 HP2.o.2.2).mono ?_
  rintro e X2 ⟨rfl,hbx⟩
  have xE:=ae (aW jB.o hbx)
  clear jB
  have jB:=xE
  clear xE hbx
  (try clear xR KL Kt Bh Ic Kr)
  obtain⟨xR,KL,Kt⟩:=af ((jB.o.block ga la5).trans uC.o.1)
  obtain⟨Bh,Ic,Kr⟩:=af ((jB.o.block gb Pj).trans uC.o.2)
  go_wp2_with fail
  refine(Ho s.heap t.heap U1.o _ _ _ _ _ _ _ (vM.o _ jB.o).1.bU (vM.o _ jB.o).1.Ac (vM.o _ jB.o).1.Ak (vM.o _ jB.o).2.bU (vM.o _ jB.o).2.Ac (vM.o _ jB.o).2.Ak).mono ?_
  rintro e X3 ⟨rfl,hbx⟩
  have xE:=ae (aW jB.o hbx)
  clear jB
  have jB:=xE
  clear xE hbx
  (try clear xR KL Kt Bh Ic Kr)
  go_wp2_with fail
  refine(NR.o _ (aW nK.o jB.o)).mono ?_
  rintro e Xz ⟨rfl,hbz⟩
  have HBZ:=ae (aW (aW nK.o jB.o) hbz)
  clear hbz
  go_wp2_with fail
  go_returns
  exact⟨by simp,HBZ.o⟩
end Go.Proofs.YthbpmepjmebolaaGreatDoor.Bk
end

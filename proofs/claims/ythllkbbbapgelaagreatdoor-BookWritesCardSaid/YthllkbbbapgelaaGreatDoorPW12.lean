/-
  Texts of this claim, packed by a program: YA YB YC YE YF DA DB DC DD DE DF DG YD YG.
-/
import Derived.WalkKit
import Derived.WalkLawsBesides
import Derived.WalkSpells
import Derived.Outline
import Derived.Handy
import Derived.KernelRfl
import Derived.Lib.Hide
import Derived.Lib.AtoiTie
import Derived.Lib.ItoaNum
import Derived.StringKeys
import Derived.Lib.SlicesS
import Derived.BigRegion
import Derived.Test.YthllkbbbapgelaaGreatDoorPW11
set_option maxHeartbeats 8000000
set_option maxRecDepth 100000
set_option linter.all false
section
namespace Go.Proofs.YthllkbbbapgelaaGreatDoor.Bk
open jy Go.Proofs.YthllkbbbapgelaaGreatDoor.AQ
abbrev az:=List UInt8
def iL:az->List az
 |[]=>[[]]
 |c::l=>if c=32 then[]::iL l else(c::(iL l).headD [])::(iL l).tail
theorem yO: ∀l,iL l≠[]:=by
 intro l
 cases l with
 |nil=>simp[iL]
 |cons c l=>unfold iL;split <;>simp
def jZ (c:UInt8):Bool:=decide (48<=c.toNat)&&decide (c.toNat<=57)
def AV (s:az):Int:=s.foldl (fun n c=>10*n+((c.toNat:Int)-48)) 0
def O3 (s:az):Bool:=decide (1<=s.length)&&decide (s.length<=4)&&(decide (s.headD 0≠48) ||decide (s.length=1))&&s.all jZ
def pI (s:az):Option Int:=if O3 s=true then some (AV s) else none
theorem Ur: ∀(s:az) (n:Int),0<=n->s.all jZ=true->n*10^s.length<=s.foldl (fun n c=>10*n+((c.toNat:Int)-48)) n/\s.foldl (fun n c=>10*n+((c.toNat:Int)-48)) n<(n+1)*10^s.length:=by
 intro s
 induction s with
 |nil=>intro n h _;simp;omega
 |cons c s ih=>
  intro n h hs
  rw[List.all_cons,eG] at hs
  have hd:=hs.1
  simp only[jZ,eG,eX] at hd
  have hp:0<(10:Int)^s.length:=Int.pow_pos (by omega)
  have:=ih (10*n+((c.toNat:Int)-48)) (by omega) hs.2
  rw[List.foldl_cons,List.length_cons,Int.pow_succ]
  have e1:n*(10^s.length*10)=(10*n)*10^s.length:=by rw[Int.mul_comm (10^s.length) 10, <-Int.mul_assoc,Int.mul_comm n 10]
  have e2:(n+1)*(10^s.length*10)=(10*(n+1))*10^s.length:=by rw[Int.mul_comm (10^s.length) 10, <-Int.mul_assoc,Int.mul_comm (n+1) 10]
  rw[e1,e2]
  have h1:(10*n)*10^s.length<=(10*n+((c.toNat:Int)-48))*10^s.length:=Int.mul_le_mul_of_nonneg_right (by omega) (by omega)
  have h2:(10*n+((c.toNat:Int)-48)+1)*10^s.length<=(10*(n+1))*10^s.length:=Int.mul_le_mul_of_nonneg_right (by omega) (by omega)
  omega
theorem Ls {s:az} {n:Int} (h:pI s=some n):0<=n/\n<=9999:=by
 unfold pI at h
 split at h
 ·rename_i hf
  obtain rfl:=jD h
  simp only[O3,eG,eX] at hf
  have h1:=Ur s 0 (by omega) hf.2
  have h2:(10:Int)^s.length<=10000:=by
   have h3:=hf.1.1.1
   have h4:=hf.1.1.2
   clear h1 hf
   generalize s.length=k at*
   rcases(show k=1∨k=2∨k=3∨k=4 by omega) with rfl|rfl|rfl|rfl <;>decide
  unfold AV
  omega
 ·cases h
inductive lI where
 |row|left|tally|CJ|nz|rate|box|note|void|start|bZ|turn|qc|Df|unread|heap|strong|qm|fill|CP|vF
 deriving DecidableEq
def MZ:List lI:=[.row,.left,.tally,.CJ,.nz,.rate,.box,.note,.void,.start,.bZ,.turn,.qc,.Df,.unread,.heap,.strong,.qm,.fill,.CP,.vF]
def lI.word:lI->az
 | .row=>[114,111,119]
 | .left=>[108,101,102,116]
 | .tally=>[116,97,108,108,121]
 | .CJ=>[119,97,115,104]
 | .nz=>[117,110,116,97,108,108,121]
 | .rate=>[114,97,116,101]
 | .box=>[98,111,120]
 | .note=>[110,111,116,101]
 | .void=>[118,111,105,100]
 | .start=>[115,116,97,114,116]
 | .bZ=>[119,101,116]
 | .turn=>[116,117,114,110]
 | .qc=>[117,110,116,117,114,110]
 | .Df=>[105,114,111,110]
 | .unread=>[117,110,114,101,97,100]
 | .heap=>[104,101,97,112]
 | .strong=>[115,116,114,111,110,103]
 | .qm=>[99,97,115,107]
 | .fill=>[102,105,108,108]
 | .CP=>[116,114,121]
 | .vF=>[117,110,116,114,121]
def lI.many:lI->Nat
 | .row=>0
 | .nz| .rate| .void| .turn| .qc| .unread| .vF=>1
 | .left| .box| .start| .heap| .qm=>2
 | .CJ| .note| .bZ| .Df| .strong| .fill| .CP=>3
 | .tally=>5
def Hw (w:az):Option lI:=MZ.find? fun c=>c.word==w
theorem Tv {w:az} {c:lI} (h:Hw w=some c):w=c.word:=by
 have:=List.find?_some h
 exact(beq_iff_eq.1 this).symm
def nR:List az->Option (List Int)
 |[]=>some []
 |p::ps=>(pI p).bind fun n=>(nR ps).map (n:: ·)
theorem VW: ∀{ps:List az} {n:List Int},nR ps=some n->n.length=ps.length:=by
 intro ps
 induction ps with
 |nil=>intro n h;obtain rfl:=jD h;rfl
 |cons p ps ih=>
  intro n h
  unfold nR at h
  cases hp:pI p with
  |none=>rw[hp] at h;cases h
  |some x=>
   cases hq:nR ps with
   |none=>rw[hp,hq] at h;cases h
   |some y=>
    rw[hp,hq] at h
    obtain rfl:=jD h
    simp[ih hq]
theorem Zj: ∀{ps:List az} {n:List Int},nR ps=some n-> ∀x∈n,0<=x/\x<=9999:=by
 intro ps
 induction ps with
 |nil=>intro n h x hx;obtain rfl:=jD h;cases hx
 |cons p ps ih=>
  intro n h x hx
  unfold nR at h
  cases hp:pI p with
  |none=>rw[hp] at h;cases h
  |some y=>
   cases hq:nR ps with
   |none=>rw[hp,hq] at h;cases h
   |some z=>
    rw[hp,hq] at h
    obtain rfl:=jD h
    rcases gZ.1 hx with rfl|hx
    ·exact Ls hp
    ·exact ih hq x hx
def vM (line:az):Option (lI×List Int):=
 (Hw ((iL line).headD [])).bind fun c=>if(iL line).tail.length=c.many then(nR (iL line).tail).map fun n=>(c,n) else none
theorem Gi {line:az} {c:lI} {n:List Int} (h:vM line=some (c,n)):(iL line).headD []=c.word/\n.length=c.many/\(∀x∈n,0<=x/\x<=9999)/\nR (iL line).tail=some n:=by
 unfold vM at h
 cases hc:Hw ((iL line).headD []) with
 |none=>rw[hc] at h;cases h
 |some d=>
  rw[hc,Option.bind_some] at h
  split at h
  ·rename_i hl
   cases hn:nR (iL line).tail with
   |none=>rw[hn] at h;cases h
   |some m=>
    rw[hn] at h
    obtain⟨rfl,rfl⟩:=Prod.mk.inj (jD h)
    exact⟨Tv hc,by rw[VW hn,hl],Zj hn,rfl⟩
  ·cases h
structure jO where
 led:aQ
 heap:cZ
 dA:bM
def dZ:jO:=
 {led:={field:={rows:=3,aK:=2,left:=(0,3),ax:=[]},rate:=10,box:=(0,2000),notes:=[]}
  heap:={last:=4,size:=10,aZ:=50,die:=10,uF:=60,start:=(30,30),bZ:=List.replicate 5 (6,6),turns:=[],readings:=[]}
  dA:={heaps:=[(40,40)],aU:=[],aJ:=[]}}
def Le (a b most:Int):Bool:=decide (a<=b)&&decide (b<=most)
def LD (a b most wide:Int):Bool:=decide (a<=b)&&decide (b<=most)&&decide (b<=a+wide)
def jl (last:Int) (p:Int->Bool):List Int:=((List.range (last+1).toNat).map fun(k:Nat)=>(k:Int)).filter p
def ny (s:jO) (l:List Nb):jO:={s with led:={s.led with field:={s.led.field with ax:=l}}}
def oI (s:jO) (l:List (Int×dR)):jO:={s with led:={s.led with notes:=l}}
def iR (s:jO) (h:cZ):jO:={s with heap:=h}
def fK (s:jO) (c:bM):jO:={s with dA:=c}
def jh (s:jO):lI->List Int->Int×jO
 | .row,_=>if 5<=s.led.field.rows then(3,s) else(0,{s with led:={s.led with field:={s.led.field with rows:=s.led.field.rows+1}}})
 | .left,n=>if Le (n.getD 0 0) (n.getD 1 0) s.led.field.rows=false then(2,s)
    else(0,{s with led:={s.led with field:={s.led.field with left:=(n.getD 0 0,n.getD 1 0)}}})
 | .tally,n=>if s.led.field.aK<=n.getD 0 0 then(7,s) else if s.led.field.rows<=n.getD 1 0∨s.led.field.rows<=n.getD 2 0 then(7,s)
    else if n.getD 2 0<n.getD 1 0 then(2,s) else if Le (n.getD 3 0) (n.getD 4 0) s.led.field.rows=false then(2,s)
    else if 5<=s.led.field.ax.length then(3,s)
    else(0,ny s (s.led.field.ax++[(n.getD 0 0,n.getD 1 0,n.getD 2 0,(n.getD 3 0,n.getD 4 0))]))
 | .CJ,n=>if(s.led.field.ax.length:Int)<=n.getD 0 0 then(7,s) else if Le (n.getD 1 0) (n.getD 2 0) s.led.field.rows=false then(2,s)
    else(0,ny s (s.led.field.ax.set (n.getD 0 0).toNat
     (let t:=s.led.field.ax.getD (n.getD 0 0).toNat (0,0,0,(0,0));(t.1,t.2.1,t.2.2.1,(n.getD 1 0,n.getD 2 0)))))
 | .nz,n=>if(s.led.field.ax.length:Int)<=n.getD 0 0 then(7,s) else(0,ny s (s.led.field.ax.eraseIdx (n.getD 0 0).toNat))
 | .rate,n=>if n.getD 0 0=0∨50<n.getD 0 0 then(2,s) else(0,{s with led:={s.led with rate:=n.getD 0 0}})
 | .box,n=>if Le (n.getD 0 0) (n.getD 1 0) 2000=false then(2,s) else(0,{s with led:={s.led with box:=(n.getD 0 0,n.getD 1 0)}})
 | .note,n=>if s.led.field.aK<=n.getD 0 0 then(7,s) else if Le (n.getD 1 0) (n.getD 2 0) 2000=false then(2,s)
    else if 5<=s.led.notes.length then(3,s) else(0,oI s (s.led.notes++[(n.getD 0 0,(n.getD 1 0,n.getD 2 0))]))
 | .void,n=>if(s.led.notes.length:Int)<=n.getD 0 0 then(7,s) else(0,oI s (s.led.notes.eraseIdx (n.getD 0 0).toNat))
 | .start,n=>if LD (n.getD 0 0) (n.getD 1 0) 500 2=false then(2,s) else(0,iR s {s.heap with start:=(n.getD 0 0,n.getD 1 0)})
 | .bZ,n=>if s.heap.last<n.getD 0 0 then(7,s) else if LD (n.getD 1 0) (n.getD 2 0) 20 2=false then(2,s)
    else(0,iR s {s.heap with bZ:=s.heap.bZ.set (n.getD 0 0).toNat (n.getD 1 0,n.getD 2 0)})
 | .turn,n=>if s.heap.last<n.getD 0 0 then(7,s) else if s.heap.turns.contains (n.getD 0 0) then(6,s)
    else(0,iR s {s.heap with turns:=jl s.heap.last fun i=>i==n.getD 0 0 ||s.heap.turns.contains i})
 | .qc,n=>if s.heap.turns.contains (n.getD 0 0)=false then(7,s)
    else(0,iR s {s.heap with turns:=jl s.heap.last fun i=>i !=n.getD 0 0&&s.heap.turns.contains i})
 | .Df,n=>if s.heap.last<n.getD 0 0 then(7,s) else if 1000<n.getD 1 0∨50<n.getD 2 0 then(2,s)
    else if 5<=s.heap.readings.length then(3,s) else(0,iR s {s.heap with readings:=s.heap.readings++[(n.getD 0 0,n.getD 1 0,n.getD 2 0)]})
 | .unread,n=>if(s.heap.readings.length:Int)<=n.getD 0 0 then(7,s) else(0,iR s {s.heap with readings:=s.heap.readings.eraseIdx (n.getD 0 0).toNat})
 | .heap,n=>if LD (n.getD 0 0) (n.getD 1 0) 100 9=false then(2,s) else if 3<=s.dA.heaps.length then(3,s)
    else(0,fK s {s.dA with heaps:=s.dA.heaps++[(n.getD 0 0,n.getD 1 0)],aU:=s.dA.aU.map (· ++[0])})
 | .strong,n=>if(s.dA.heaps.length:Int)<=n.getD 0 0 then(7,s) else if LD (n.getD 1 0) (n.getD 2 0) 100 9=false then(2,s)
    else(0,fK s {s.dA with heaps:=s.dA.heaps.set (n.getD 0 0).toNat (n.getD 1 0,n.getD 2 0)})
 | .qm,n=>if(s.dA.heaps.length:Int)<=n.getD 0 0 then(7,s) else if n.getD 1 0=0∨30<n.getD 1 0 then(2,s)
    else if 3<=s.dA.aU.length then(3,s)
    else(0,fK s {s.dA with aU:=s.dA.aU++[(List.replicate s.dA.heaps.length 0).set (n.getD 0 0).toNat (n.getD 1 0)]})
 | .fill,n=>if(s.dA.aU.length:Int)<=n.getD 0 0 then(7,s) else if(s.dA.heaps.length:Int)<=n.getD 1 0 then(7,s) else if 30<n.getD 2 0 then(2,s)
    else if((s.dA.aU.getD (n.getD 0 0).toNat []).set (n.getD 1 0).toNat (n.getD 2 0)).any (fun x=>decide (0<x))=false then(8,s)
    else(0,fK s {s.dA with aU:=s.dA.aU.set (n.getD 0 0).toNat ((s.dA.aU.getD (n.getD 0 0).toNat []).set (n.getD 1 0).toNat (n.getD 2 0))})
 | .CP,n=>if(s.dA.aU.length:Int)<=n.getD 0 0 then(7,s) else if LD (n.getD 1 0) (n.getD 2 0) 100 100=false then(2,s)
    else if 5<=s.dA.aJ.length then(3,s) else(0,fK s {s.dA with aJ:=s.dA.aJ++[(true,n.getD 0 0,(n.getD 1 0,n.getD 2 0))]})
 | .vF,n=>if(s.dA.aJ.length:Int)<=n.getD 0 0 then(7,s) else(0,fK s {s.dA with aJ:=s.dA.aJ.eraseIdx (n.getD 0 0).toNat})
structure fO (s:jO):Prop where
 rows:3<=s.led.field.rows/\s.led.field.rows<=5
 aK:s.led.field.aK=2
 left:0<=s.led.field.left.1/\s.led.field.left.1<=s.led.field.left.2/\s.led.field.left.2<=s.led.field.rows
 E5:s.led.field.ax.length<=5
 xE: ∀t∈s.led.field.ax,(0<=t.1/\t.1<2)/\(0<=t.2.1/\t.2.1<=t.2.2.1/\t.2.2.1<s.led.field.rows)/\(0<=t.2.2.2.1/\t.2.2.2.1<=t.2.2.2.2/\t.2.2.2.2<=s.led.field.rows)
 rate:1<=s.led.rate/\s.led.rate<=50
 box:0<=s.led.box.1/\s.led.box.1<=s.led.box.2/\s.led.box.2<=2000
 notes:s.led.notes.length<=5
 note: ∀t∈s.led.notes,(0<=t.1/\t.1<2)/\(0<=t.2.1/\t.2.1<=t.2.2/\t.2.2<=2000)
 heap:s.heap.last=4/\s.heap.size=10/\s.heap.aZ=50/\s.heap.die=10/\s.heap.uF=60
 start:0<=s.heap.start.1/\s.heap.start.1<=s.heap.start.2/\s.heap.start.2<=500/\s.heap.start.2<=s.heap.start.1+2
 Vk:s.heap.bZ.length=5
 bZ: ∀r∈s.heap.bZ,0<=r.1/\r.1<=r.2/\r.2<=20/\r.2<=r.1+2
 turns: ∃p,s.heap.turns=jl 4 p
 reads:s.heap.readings.length<=5
 read: ∀x∈s.heap.readings,(0<=x.1/\x.1<=4)/\(0<=x.2.1/\x.2.1<=1000)/\(0<=x.2.2/\x.2.2<=50)
 TL:1<=s.dA.heaps.length/\s.dA.heaps.length<=3
 dA: ∀r∈s.dA.heaps,0<=r.1/\r.1<=r.2/\r.2<=100/\r.2<=r.1+9
 aU:s.dA.aU.length<=3
 qm: ∀l∈s.dA.aU,l.length=s.dA.heaps.length/\(∀x∈l,0<=x/\x<=30)/\0<mO l
 aJ:s.dA.aJ.length<=5
 trial: ∀t∈s.dA.aJ,t.1=true/\(0<=t.2.1/\t.2.1<s.dA.aU.length)/\(0<=t.2.2.1/\t.2.2.1<=t.2.2.2/\t.2.2.2<=100)
theorem Ii:fO dZ where
 rows:=by decide
 aK:=rfl
 left:=by decide
 E5:=by decide
 xE:=fun _ h=>by cases h
 rate:=by decide
 box:=by decide
 notes:=by decide
 note:=fun _ h=>by cases h
 heap:=by decide
 start:=by decide
 Vk:=rfl
 bZ:=fun r h=>by obtain rfl:=List.eq_of_mem_replicate h;decide
 turns:=⟨fun _=>false,by decide⟩
 reads:=by decide
 read:=fun _ h=>by cases h
 TL:=by decide
 dA:=fun r h=>by obtain rfl:=fD.1 h;decide
 aU:=by decide
 qm:=fun _ h=>by cases h
 aJ:=by decide
 trial:=fun _ h=>by cases h
theorem FM {n:List Int} (h: ∀x∈n,0<=x/\x<=9999) (i:Nat):0<=n.getD i 0/\n.getD i 0<=9999:=by
 by_cases hi:i<n.length
 ·rw[gV,dw hi,Option.getD_some];exact h _ (dh hi)
 ·rw[gV,List.getElem?_eq_none (by omega)];exact⟨by decide,by decide⟩
theorem vP {α:Type} {l:List α} {i:Nat} {x y:α} (h:y∈l.set i x):y=x∨y∈l:=by
 rcases List.mem_or_eq_of_mem_set h with h|h
 ·exact .inr h
 ·exact .inl h
theorem abH {l:List Int} (h: ∀x∈l,0<=x/\x<=30):0<=mO l:=(Fq (by omega) h).1
theorem NI {l:List Int} (h: ∀x∈l,0<=x/\x<=30):0<mO l↔l.any (fun x=>decide (0<x))=true:=by
 induction l with
 |nil=>simp[mO]
 |cons x l ih=>
  have h1:=h x (by simp)
  have h2:=abH (l:=l) (fun y hy=>h y (by simp[hy]))
  have h3:=ih (fun y hy=>h y (by simp[hy]))
  rw[List.any_cons,Bool.or_eq_true, <-h3,eX]
  simp only[mO]
  omega
theorem QW (l:List Int):mO (l++[0])=mO l:=by rw[NJ];simp[mO]
theorem xU {a b m:Int}:Le a b m=true↔a<=b/\b<=m:=by simp[Le]
theorem yh {a b m w:Int}:LD a b m w=true↔a<=b/\b<=m/\b<=a+w:=by simp[LD,and_assoc]
theorem mem_erase {α:Type} {l:List α} {i:Nat} {x:α} (h:x∈l.eraseIdx i):x∈l:=List.mem_of_mem_eraseIdx h
theorem zh {α:Type} (l:List α) (i:Nat):(l.eraseIdx i).length<=l.length:=List.length_eraseIdx_le l i
theorem aaX {s:jO} (hG:fO s) (c:lI) {n:List Int} (hn: ∀x∈n,0<=x/\x<=9999) (h0:(jh s c n).1=0):fO (jh s c n).2:=by
 have n0:=FM hn 0
 have n1:=FM hn 1
 have n2:=FM hn 2
 have n3:=FM hn 3
 cases c <;>simp only[jh] at h0⊢
 case row=>
  split at h0 <;>first|omega|skip
  rename_i h1
  rw[ak h1]
  have:=hG.rows;have:=hG.left
  exact {hG with rows:=by simp only;omega,left:=by simp only;omega,xE:=fun t ht=>by have:=hG.xE t ht;simp only at*;omega}
 case left=>
  split at h0 <;>first|omega|skip
  rename_i h1
  rw[ak h1]
  rw[Bool.not_eq_false,xU] at h1
  exact {hG with left:=by simp only;omega}
 case tally=>
  repeat' (split at h0;· omega)
  rename_i h1 h2 h3 h4 h5
  rw[ak h1,ak h2,ak h3,ak h4,ak h5]
  rw[Bool.not_eq_false,xU] at h4
  have hw:=hG.aK
  refine {hG with E5:=by simp[ny];omega,xE:=fun t ht=>?_}
  rcases iP.1 ht with ht|ht
  ·exact hG.xE t ht
  ·obtain rfl:=fD.1 ht
   simp only[ny];omega
 case CJ=>
  repeat' (split at h0;· omega)
  rename_i h1 h2
  rw[ak h1,ak h2]
  rw[Bool.not_eq_false,xU] at h2
  refine {hG with E5:=by simp[ny];exact hG.E5,xE:=fun t ht=>?_}
  rcases vP ht with rfl|ht
  ·have hk:(n.getD 0 0).toNat<s.led.field.ax.length:=by omega
   have:=hG.xE _ (dh hk)
   rw[gV (l:=s.led.field.ax),dw hk,Option.getD_some]
   simp only[ny];omega
  ·exact hG.xE t ht
 case nz=>
  repeat' (split at h0;· omega)
  rename_i h1
  rw[ak h1]
  exact {hG with E5:=iW (zh _ _) hG.E5,xE:=fun t ht=>hG.xE t (mem_erase ht)}
 case rate=>
  repeat' (split at h0;· omega)
  rename_i h1
  rw[ak h1]
  exact {hG with rate:=by simp only;omega}
 case box=>
  repeat' (split at h0;· omega)
  rename_i h1
  rw[ak h1]
  rw[Bool.not_eq_false,xU] at h1
  exact {hG with box:=by simp only;omega}
 case note=>
  repeat' (split at h0;· omega)
  rename_i h1 h2 h3
  rw[ak h1,ak h2,ak h3]
  rw[Bool.not_eq_false,xU] at h2
  have hw:=hG.aK
  refine {hG with notes:=by simp[oI];omega,note:=fun t ht=>?_}
  rcases iP.1 ht with ht|ht
  ·exact hG.note t ht
  ·obtain rfl:=fD.1 ht
   simp only;omega
 case void=>
  repeat' (split at h0;· omega)
  rename_i h1
  rw[ak h1]
  exact {hG with notes:=iW (zh _ _) hG.notes,note:=fun t ht=>hG.note t (mem_erase ht)}
 case start=>
  repeat' (split at h0;· omega)
  rename_i h1
  rw[ak h1]
  rw[Bool.not_eq_false,yh] at h1
  exact {hG with start:=by simp only[iR];omega}
 case bZ=>
  repeat' (split at h0;· omega)
  rename_i h1 h2
  rw[ak h1,ak h2]
  rw[Bool.not_eq_false,yh] at h2
  refine {hG with Vk:=by simp[iR];exact hG.Vk,bZ:=fun r hr=>?_}
  rcases vP hr with rfl|hr
  ·simp only;omega
  ·exact hG.bZ r hr
 case turn=>
  repeat' (split at h0;· omega)
  rename_i h1 h2
  rw[ak h1,ak h2]
  exact {hG with turns:=⟨_,by simp only[iR,hG.heap.1];rfl⟩}
 case qc=>
  repeat' (split at h0;· omega)
  rename_i h1
  rw[ak h1]
  exact {hG with turns:=⟨_,by simp only[iR,hG.heap.1];rfl⟩}
 case Df=>
  repeat' (split at h0;· omega)
  rename_i h1 h2 h3
  rw[ak h1,ak h2,ak h3]
  have hl:=hG.heap.1
  refine {hG with reads:=by simp[iR];omega,read:=fun t ht=>?_}
  rcases iP.1 ht with ht|ht
  ·exact hG.read t ht
  ·obtain rfl:=fD.1 ht
   simp only;omega
 case unread=>
  repeat' (split at h0;· omega)
  rename_i h1
  rw[ak h1]
  exact {hG with reads:=iW (zh _ _) hG.reads,read:=fun t ht=>hG.read t (mem_erase ht)}
 case heap=>
  repeat' (split at h0;· omega)
  rename_i h1 h2
  rw[ak h1,ak h2]
  rw[Bool.not_eq_false,yh] at h1
  refine {hG with TL:=by simp[fK];omega,dA:=fun r hr=>?_,aU:=by simp[fK];exact hG.aU,qm:=fun l hl=>?_,trial:=fun t ht=>?_}
  ·rcases iP.1 hr with hr|hr
   ·exact hG.dA r hr
   ·obtain rfl:=fD.1 hr
    simp only;omega
  ·obtain⟨m,hm,rfl⟩:=jc.1 hl
   have:=hG.qm m hm
   refine⟨by simp[fK,this.1],fun x hx=>?_,by rw[QW];exact this.2.2⟩
   rcases iP.1 hx with hx|hx
   ·exact this.2.1 x hx
   ·obtain rfl:=fD.1 hx;decide
  ·have:=hG.trial t ht
   simp only[fK,mD]
   exact this
 case strong=>
  repeat' (split at h0;· omega)
  rename_i h1 h2
  rw[ak h1,ak h2]
  rw[Bool.not_eq_false,yh] at h2
  refine {hG with TL:=by simp[fK];exact hG.TL,dA:=fun r hr=>?_,qm:=fun l hl=>by simp[fK];exact hG.qm l hl}
  rcases vP hr with rfl|hr
  ·simp only;omega
  ·exact hG.dA r hr
 case qm=>
  repeat' (split at h0;· omega)
  rename_i h1 h2 h3
  rw[ak h1,ak h2,ak h3]
  have hk:(n.getD 0 0).toNat<s.dA.heaps.length:=by omega
  have hx: ∀x∈(List.replicate s.dA.heaps.length (0:Int)).set (n.getD 0 0).toNat (n.getD 1 0),0<=x/\x<=30:=fun x hx=>by
   rcases vP hx with rfl|hx
   ·omega
   ·obtain rfl:=List.eq_of_mem_replicate hx;decide
  refine {hG with aU:=by simp[fK];omega,qm:=fun l hl=>?_,trial:=fun t ht=>?_}
  ·rcases iP.1 hl with hl|hl
   ·exact hG.qm l hl
   ·obtain rfl:=fD.1 hl
    refine⟨by simp[fK],hx,(NI hx).2 ?_⟩
    rw[List.any_eq_true]
    exact⟨n.getD 1 0,List.mem_iff_getElem.2 ⟨(n.getD 0 0).toNat,by simpa using hk,List.getElem_set_self _⟩,decide_eq_true (by omega)⟩
  ·have:=hG.trial t ht
   simp only[fK,dm,List.length_singleton]
   exact⟨this.1,by omega,this.2.2⟩
 case fill=>
  repeat' (split at h0;· omega)
  rename_i h1 h2 h3 h4
  rw[ak h1,ak h2,ak h3,ak h4]
  have hk:(n.getD 0 0).toNat<s.dA.aU.length:=by omega
  have hb:=hG.qm _ (dh hk)
  rw[gV (l:=s.dA.aU),dw hk,Option.getD_some] at h4⊢
  have hx: ∀x∈s.dA.aU[(n.getD 0 0).toNat].set (n.getD 1 0).toNat (n.getD 2 0),0<=x/\x<=30:=fun x hx=>by
   rcases vP hx with rfl|hx
   ·omega
   ·exact hb.2.1 x hx
  refine {hG with aU:=by simp[fK];exact hG.aU,qm:=fun l hl=>?_,trial:=fun t ht=>?_}
  ·rcases vP hl with rfl|hl
   ·exact⟨by rw[qw];exact hb.1,hx,(NI hx).2 (by simpa using h4)⟩
   ·exact hG.qm l hl
  ·have:=hG.trial t ht
   simp only[fK,qw]
   exact this
 case CP=>
  repeat' (split at h0;· omega)
  rename_i h1 h2 h3
  rw[ak h1,ak h2,ak h3]
  rw[Bool.not_eq_false,yh] at h2
  refine {hG with aJ:=by simp[fK];omega,trial:=fun t ht=>?_}
  rcases iP.1 ht with ht|ht
  ·exact hG.trial t ht
  ·obtain rfl:=fD.1 ht
   exact⟨rfl,by simp only[fK];omega,by simp only;omega⟩
 case vF=>
  repeat' (split at h0;· omega)
  rename_i h1
  rw[ak h1]
  exact {hG with aJ:=iW (zh _ _) hG.aJ,trial:=fun t ht=>hG.trial t (mem_erase ht)}
end Go.Proofs.YthllkbbbapgelaaGreatDoor.Bk
end
section
namespace Go.Proofs.YthllkbbbapgelaaGreatDoor.Bk
open jy Go.Lib
abbrev zH (k:Nat):UInt8:=UInt8.ofNat (48+k)
theorem lN {k:Nat} (h:k<10):(zH k).toNat=48+k:=by simp[zH];omega
theorem Dw {k:Nat} (h:k<10):jZ (zH k)=true:=by
 simp only[jZ,lN h,eG,eX];omega
theorem aeN {k:Nat} (h:k<10) (h1:1<=k):zH k≠48:=fun e=>by
 have:=congrArg UInt8.toNat e
 rw[lN h] at this
 have h2:(48:UInt8).toNat=48:=by decide
 omega
theorem MH {c:UInt8} (h:jZ c=true): ∃k,k<10/\c=zH k:=by
 simp only[jZ,eG,eX] at h
 refine⟨c.toNat-48,by omega,?_⟩
 apply UInt8.toNat_inj.1
 rw[lN (by omega)]
 omega
theorem kK {u:Nat} (h:u<10):decDigits u=[zH u]:=by rw[decDigits,dif_pos h]
theorem wU {u:Nat} (h: ¬u<10):decDigits u=decDigits (u/10)++[zH (u%10)]:=by rw[decDigits,dif_neg h]
theorem aaB: ∀u, ∀c∈decDigits u, ∃k,k<10/\c=zH k:=by
 intro u
 induction u using Nat.strongRecOn with
 |_ u ih=>
  intro c hc
  by_cases h:u<10
  ·rw[kK h] at hc
   obtain rfl:=fD.1 hc
   exact⟨u,h,rfl⟩
  ·rw[wU h] at hc
   rcases iP.1 hc with hc|hc
   ·exact ih _ (by omega) c hc
   ·obtain rfl:=fD.1 hc
    exact⟨u%10,by omega,rfl⟩
theorem aaA (u:Nat):1<=(decDigits u).length:=by
 by_cases h:u<10
 ·rw[kK h];exact ai _
 ·rw[wU h];simp
theorem Js (s:az) (c:UInt8):AV (s++[c])=10*AV s+((c.toNat:Int)-48):=by unfold AV;rw[List.foldl_append];rfl
theorem abu (u:Nat):AV (decDigits u)=u:=by
 induction u using Nat.strongRecOn with
 |_ u ih=>
  by_cases h:u<10
  ·rw[kK h]
   show 10*(0:Int)+(((zH u).toNat:Int)-48)=u
   rw[lN h];omega
  ·rw[wU h,Js,ih _ (by omega),lN (by omega)]
   omega
theorem MK: ∀(k u:Nat),u<10^(k+1)->(decDigits u).length<=k+1:=by
 intro k
 induction k with
 |zero=>intro u h;rw[kK (by omega)];exact ai _
 |succ k ih=>
  intro u h
  by_cases hu:u<10
  ·rw[kK hu];simp
  ·rw[wU hu,dm]
   have:=ih (u/10) (by rw[Nat.pow_succ] at h;omega)
   simp only[List.length_singleton]
   omega
theorem ahW (u:Nat):u<10^(decDigits u).length:=by
 induction u using Nat.strongRecOn with
 |_ u ih=>
  by_cases h:u<10
  ·rw[kK h];simpa using h
  ·rw[wU h,dm,List.length_singleton,Nat.pow_succ]
   have:=ih (u/10) (by omega)
   omega
theorem acA {u:Nat} (h1:1<=u):(decDigits u).headD 0≠48:=by
 induction u using Nat.strongRecOn with
 |_ u ih=>
  by_cases h:u<10
  ·rw[kK h];exact aeN h h1
  ·rw[wU h]
   have h2:=ih (u/10) (by omega) (by omega)
   have h3:=aaA (u/10)
   cases hd:decDigits (u/10) with
   |nil=>rw[hd] at h3;simp at h3
   |cons a l=>rw[hd] at h2;exact h2
theorem abR {u:Nat} (h:u<10000):pI (decDigits u)=some (u:Int):=by
 have h1:=aaA u
 have h2:=MK 3 u (by simpa using h)
 have h3:(decDigits u).all jZ=true:=by
  rw[ku]
  intro c hc
  obtain⟨k,hk,rfl⟩:=aaB u c hc
  exact Dw hk
 unfold pI
 rw[aF,abu]
 unfold O3
 rw[h3,decide_eq_true h1,decide_eq_true h2]
 by_cases hu:u=0
 ·subst hu;rw[kK (by omega)];decide
 ·rw[decide_eq_true (acA (u:=u) (by omega))];rfl
theorem acz: ∀(k:Nat) (s:az),s.length=k+1->s.all jZ=true->(s.headD 0≠48∨s.length=1)->decDigits (AV s).toNat=s:=by
 intro k
 induction k with
 |zero=>
  intro s hl hd _
  obtain⟨c,rfl⟩:=List.length_eq_one_iff.1 hl
  have hc:jZ c=true:=by simpa using hd
  obtain⟨j,hj,rfl⟩:=MH hc
  show decDigits (10*(0:Int)+(((zH j).toNat:Int)-48)).toNat=_
  rw[lN hj,show(10*(0:Int)+(((48+j:Nat):Int)-48)).toNat=j from by omega,kK hj]
 |succ k ih=>
  intro s hl hd hh
  obtain⟨t,c,rfl⟩: ∃t c,s=t++[c]:=by
   rcases List.eq_nil_or_concat s with rfl|⟨t,c,rfl⟩
   ·simp at hl
   ·exact⟨t,c,by simp⟩
  have hl':t.length=k+1:=by simpa using hl
  rw[List.all_append,eG] at hd
  have hc:jZ c=true:=by simpa using hd.2
  obtain⟨j,hj,rfl⟩:=MH hc
  have hne:t.headD 0≠48:=by
   rcases hh with hh|hh
   ·cases t with
    |nil=>simp at hl'
    |cons a t=>exact hh
   ·rw[hl] at hh;omega
  have h1:=ih t hl' hd.1 (.inl hne)
  have hb:=Ur t 0 (by omega) hd.1
  have hpos:1<=AV t:=by
   have hnn:0<=AV t:=by unfold AV;omega
   by_cases hz:AV t=0
   ·rw[hz] at h1
    have h48:decDigits (0:Int).toNat=[48]:=by rw[show(0:Int).toNat=0 from rfl,kK (by omega)];rfl
    rw[h48] at h1
    rw[<-h1] at hne
    exact absurd rfl hne
   ·omega
  rw[Js,lN hj,wU (by omega)]
  rw[show(10*AV t+(((48+j:Nat):Int)-48)).toNat/10=(AV t).toNat from by omega,show(10*AV t+(((48+j:Nat):Int)-48)).toNat%10=j from by omega,h1]
theorem Fv {s:az} {v:Int} (h:pI s=some v):s=decDigits v.toNat/\s.length<=4:=by
 unfold pI at h
 split at h
 ·rename_i hf
  obtain rfl:=jD h
  simp only[O3,eG,Bool.or_eq_true,eX] at hf
  obtain⟨⟨⟨h1,h2⟩,h3⟩,h4⟩:=hf
  exact⟨(acz (s.length-1) s (by omega) h4 h3).symm,h2⟩
 ·cases h
theorem Pj {c:UInt8} (h:jZ c=true):digitVal c=some (c.toNat-48):=by
 simp only[jZ,eG,eX] at h
 unfold digitVal
 rw[aF h]
theorem Tq: ∀(s:az) (acc:Nat),s.all jZ=true-> ∃m:Nat,decFrom acc s=some m/\(m:Int)=s.foldl (fun n c=>10*n+((c.toNat:Int)-48)) (acc:Int):=by
 intro s
 induction s with
 |nil=>intro acc _;exact⟨acc,rfl,rfl⟩
 |cons c s ih=>
  intro acc h
  rw[List.all_cons,eG] at h
  obtain⟨m,h1,h2⟩:=ih (acc*10+(c.toNat-48)) h.2
  have hd:=h.1
  simp only[jZ,eG,eX] at hd
  refine⟨m,by rw[decFrom,Pj h.1];exact h1,?_⟩
  rw[h2,List.foldl_cons]
  congr 1
  omega
theorem ER {s:az} {v:Int} (h:pI s=some v):atoi s=some v:=by
 unfold pI at h
 split at h
 ·rename_i hf
  obtain rfl:=jD h
  simp only[O3,eG,Bool.or_eq_true,eX] at hf
  obtain⟨⟨⟨h1,h2⟩,h3⟩,h4⟩:=hf
  cases s with
  |nil=>simp at h1
  |cons c s=>
   have hd:=h4
   rw[List.all_cons,eG] at hd
   have hc:=hd.1
   simp only[jZ,eG,eX] at hc
   have n45:(c==45)=false:=by
    rw[Io];rintro rfl;revert hc;decide
   have n43:(c==43)=false:=by
    rw[Io];rintro rfl;revert hc;decide
   obtain⟨m,e1,e2⟩:=Tq (c::s) 0 h4
   have e3:atoi (c::s)=(decNat (c::s)).map fun(m:Nat)=>(m:Int):=by
    simp only[atoi,n45,n43,Bool.false_eq_true,if_false]
   rw[e3]
   unfold decNat
   rw[ak (by simp),e1]
   exact congrArg some e2
 ·cases h
theorem Ol {s:az} {v:Int} (h0:0<=v) (hl:s.length<=4) (he:itoa v=s):pI s=some v:=by
 unfold itoa at he
 rw[ak (by omega)] at he
 have h1:=ahW v.toNat
 rw[he] at h1
 have h2:v.toNat<10000:=fH h1 (by
  have:=Nat.pow_le_pow_right (show 0<10 by omega) hl
  simpa using this)
 have:=abR h2
 rw[he] at this
 rw[this]
 congr 1
 omega
theorem Zx {s:az} {v:Int} (h:pI s=some v):itoa v=s:=by
 unfold itoa
 have:=(Ls h).1
 rw[ak (by omega)]
 exact(Fv h).1.symm
end Go.Proofs.YthllkbbbapgelaaGreatDoor.Bk
end
section
namespace Go.Proofs.YthllkbbbapgelaaGreatDoor.Bk
open jy Go.Lib Go.Proofs.YthllkbbbapgelaaGreatDoor.AQ
section
variable (st : jO → Int)
def xu (s:jO) (line:az):jO×Int:=
 match vM line with
 |none=>(s,4)
 |some (c,n)=>if(jh s c n).1≠0 then(s,(jh s c n).1) else if st (jh s c n).2≠0 then(s,st (jh s c n).2) else((jh s c n).2,0)
def fJ:jO->List az->jO×List Int
 |s,[]=>(s,[])
 |s,l::ls=>((fJ (xu st s l).1 ls).1,(xu st s l).2::(fJ (xu st s l).1 ls).2)
variable {st}
theorem BM {s:jO} {line:az} (h:vM line=none):xu st s line=(s,4):=by unfold xu;rw[h]
theorem BL {s:jO} {line:az} {c:lI} {n:List Int} (h:vM line=some (c,n)):
 xu st s line=if(jh s c n).1≠0 then(s,(jh s c n).1) else if st (jh s c n).2≠0 then(s,st (jh s c n).2) else((jh s c n).2,0):=by unfold xu;rw[h]
theorem adt {s:jO} {line:az} (h:(xu st s line).2=0): ∃c n,vM line=some (c,n)/\(jh s c n).1=0/\st (jh s c n).2=0/\xu st s line=((jh s c n).2,0):=by
 cases hp:vM line with
 |none=>rw[BM hp] at h;cases h
 |some x=>
  obtain⟨c,n⟩:=x
  rw[BL hp] at h⊢
  split at h
  ·rename_i h1;exact absurd h h1
  ·rename_i h1
   split at h
   ·rename_i h2;exact absurd h h2
   ·rename_i h2
    rw[ak h1,ak h2]
    exact⟨c,n,rfl,by simpa using h1,by simpa using h2,rfl⟩
theorem adu {s:jO} {line:az} (h:(xu st s line).2≠0):(xu st s line).1=s:=by
 cases hp:vM line with
 |none=>rw[BM hp]
 |some x=>
  obtain⟨c,n⟩:=x
  rw[BL hp] at h⊢
  split
  ·rfl
  ·rename_i h1
   split
   ·rfl
   ·rename_i h2
    rw[ak h1,ak h2] at h
    exact absurd rfl h
theorem acw {s:jO} (hG:fO s) (line:az):fO (xu st s line).1:=by
 by_cases h:(xu st s line).2=0
 ·obtain⟨c,n,h1,h2,_,h4⟩:=adt h
  rw[h4]
  exact aaX hG c (Gi h1).2.2.1 h2
 ·rw[adu h];exact hG
theorem Xj {s:jO} (hs:st s=0) (line:az):st (xu st s line).1=0:=by
 by_cases h:(xu st s line).2=0
 ·obtain⟨c,n,_,_,h3,h4⟩:=adt h
  rw[h4];exact h3
 ·rw[adu h];exact hs
theorem JL: ∀(ls:List az) {s:jO},fO s->fO (fJ st s ls).1:=by
 intro ls
 induction ls with
 |nil=>intro s h;exact h
 |cons l ls ih=>intro s h;exact ih (acw h l)
theorem Oa: ∀(ls:List az) {s:jO},st s=0->st (fJ st s ls).1=0:=by
 intro ls
 induction ls with
 |nil=>intro s h;exact h
 |cons l ls ih=>intro s h;exact ih (Xj h l)
theorem Y5: ∀(ls:List az) (s:jO),(fJ st s ls).2.length=ls.length:=by
 intro ls
 induction ls with
 |nil=>intro s;rfl
 |cons l ls ih=>intro s;simp[fJ,ih]
theorem Y6: ∀(a b:List az) (s:jO),fJ st s (a++b)=((fJ st (fJ st s a).1 b).1,(fJ st s a).2++(fJ st (fJ st s a).1 b).2):=by
 intro a
 induction a with
 |nil=>intro b s;rfl
 |cons x a ih=>intro b s;simp only[List.cons_append,fJ,ih]
theorem VQ (ls:List az) (l:az) (s:jO):fJ st s (ls++[l])=((xu st (fJ st s ls).1 l).1,(fJ st s ls).2++[(xu st (fJ st s ls).1 l).2]):=by
 rw[Y6];rfl
end
end Go.Proofs.YthllkbbbapgelaaGreatDoor.Bk
end
section
namespace Go.Proofs.YthllkbbbapgelaaGreatDoor.Bk
open jy Go.Lib Go.Proofs.YthllkbbbapgelaaGreatDoor.AQ
theorem yX {last:Int} {p:Int->Bool} {i:Int}:i∈jl last p↔(0<=i/\i<=last)/\p i=true:=by
 unfold jl
 rw[List.mem_filter,jc]
 constructor
 ·rintro⟨⟨k,hk,rfl⟩,hp⟩
  have:=kD.1 hk
  exact⟨by omega,hp⟩
 ·rintro⟨h,hp⟩
  exact⟨⟨i.toNat,kD.2 (by omega),by omega⟩,hp⟩
variable {st : jO → Int}
end Go.Proofs.YthllkbbbapgelaaGreatDoor.Bk
end
section
namespace Go.Proofs.YthllkbbbapgelaaGreatDoor.Bk
open Go.RowKit Go.RG Go.SL Go.Shelf jy Go.TB
def dK (l:List Bool):List Value:=l.map fun b=> .bool b
abbrev Cj (w:World) (v:Value) (l:List Bool):Prop:=aN 1 w v l.length (dK l)
theorem Cj.cell {w:World} {o:Option Addr} {n c:Nat} {l:List Bool} (h:aN 1 w (.slice o n c) n (dK l)) {k:Nat} (hk:k<l.length): ∃b off,o=some ⟨b,off,none⟩/\b<w.heap.size/\w.cell? ⟨b,off+k,none⟩=some (.bool l[k]):=by
 obtain⟨hl,o',c',hv,h1,h2,h3,h4⟩:=h
 cases hv
 have hlen:(dK l).length=l.length:=by simp[dK]
 cases o with
 |none=>have:=h3 rfl;omega
 |some a=>
  obtain⟨b,off,sp⟩:=a
  obtain⟨hs,hc⟩:=h4 _ rfl
  simp only at hs hc
  subst hs
  have h0:=hc k (.bool l[k]) (by simp[dK,hk])
  exact⟨b,off,rfl,dI w _ h0,h0⟩
theorem Jf (l:List Bool) (v:Value) (w:World) (hv:Cj w v l):Calls Tryz.prog 174 #[v,.bool true] w (PV (.bool (l.contains true)) w):=by
 have hidx:Calls Tryz.prog 255 #[v,.bool true] w (fun e w'=>w=w'/\((l.contains true=true/\ ∃k:Nat,k<l.length/\e= .returned (iv k))∨(l.contains true=false/\e= .returned (iv (-1))))):=by
  have hlen:=aN.len hv
  obtain⟨o,c,rfl⟩:=aN.open hv
  have HV:=ae hv
  clear hv
  go_enter Tryz.func255,Tryz.ntmps255
  go_wp2
  go_loop [4,5,8] (fun _ _ i=> ∃k:Nat,k<=l.length/\i= .int .i64 k/\(∀j (hj:j<l.length),j<k->l[j]=false)) (fun _ _ i=>l.length-(intOf i).toNat)
  case atStart=>exact⟨0,bQ _,rfl,fun j _ hj=>by omega⟩
  case round=>
   obtain⟨k,hk,rfl,hno⟩:=hrel
   have HN:=ae hno
   clear hno
   by_cases hlt:k<l.length
   ·obtain⟨b,off,rfl,hb,hc0⟩:=Cj.cell HV.o hlt
    cases he:l[k]
    ·rw[he] at hc0
     have HE:=ae he
     clear he
     go_wp2
     go_round
     case rel=>exact⟨k+1,by omega,by go_num,fun j hj hjk=>(by by_cases e:j=k;(subst e;exact HE.o);exact HN.o j hj (by omega))⟩
     case measure=>simp[intOf];omega
    ·rw[he] at hc0
     have HE:=ae he
     clear he
     go_wp2
     go_returns
     exact⟨rfl,.inl ⟨by first|exact HE.o▸dh hlt|(rw[List.contains_iff_mem, <-HE.o];exact dh _),k,hlt,by simp⟩⟩
   ·have hkl:k=l.length:=by omega
    go_wp2
    go_returns
    refine⟨rfl,.inr ⟨?_,by simp⟩⟩
    (try rw[<-Bool.not_eq_true,List.contains_iff_mem])
    intro hm
    obtain⟨j,hj,e⟩:=mF hm
    have:=HN.o j hj (by omega)
    rw[this] at e
    cases e
 have HI:=ae hidx
 clear hidx
 go_enter Tryz.func174,Tryz.ntmps174
 go_wp2_with fail
 refine HI.o.mono ?_
 rintro e w' ⟨rfl,⟨hc,k,hk,rfl⟩|⟨hc,rfl⟩⟩
 ·have HC:=ae hc
  clear hc
  go_wp2_with fail
  go_returns
  exact⟨by rw[HC.o];simp,aH _ _⟩
 ·have HC:=ae hc
  clear hc
  go_wp2_with fail
  go_returns
  exact⟨by rw[HC.o];simp,aH _ _⟩
abbrev kH (code:Int):List PanicEntry:=[{v:= .iface 214 (.agg #[iv code]),recovered:=false}]
def TZ (code:Int) (c:Bool) (w:World) (e:Ending) (w':World):Prop:=
 Below w.heap.size w w'/\((c=false/\e= .returned (.tuple #[]))∨(c=true/\e= .panicked (kH code)))
theorem Q7 (code:Int) (l:List Bool) (v:Value) (w:World) (hv:Cj w v l):Calls Tryz.prog 99 #[iv code,v] w (TZ code (l.contains true) w):=by
 have H:=ae (Jf l v w hv)
 obtain⟨o,c,rfl⟩:=aN.open hv
 clear hv
 cases hq:l.contains true
 ·rw[hq] at H
  clear hq
  go_enter Tryz.func99,Tryz.ntmps99
  go_wp2_with fail
  refine H.o.mono ?_
  rintro e w' ⟨rfl,hb⟩
  go_wp2_with fail
  go_end0
  exact⟨hb,.inl ⟨rfl,by simp⟩⟩
 ·rw[hq] at H
  clear hq
  go_enter Tryz.func99,Tryz.ntmps99
  go_wp2_with fail
  refine H.o.mono ?_
  rintro e w' ⟨rfl,hb⟩
  go_wp2_with fail
  exact⟨rfl,hb,.inr ⟨rfl,rfl⟩⟩
def gJ:lI->Nat
 | .row=>153
 | .left=>154
 | .tally=>155
 | .CJ=>156
 | .nz=>157
 | .rate=>158
 | .box=>159
 | .note=>160
 | .void=>161
 | .start=>162
 | .bZ=>163
 | .turn=>164
 | .qc=>165
 | .Df=>166
 | .unread=>167
 | .heap=>168
 | .strong=>169
 | .qm=>170
 | .fill=>171
 | .CP=>172
 | .vF=>173
abbrev WE:=Nat×Nat
abbrev wev (e:WE):Value:= .agg #[iv e.1,.func (.func e.2) #[] #[]]
abbrev Vr (s:ByteArray):Value:= .string s
abbrev ig (c:lI):ByteArray:=⟨c.word.toArray⟩
def QU:List (ByteArray×WE):=MZ.map fun c=>(ig c,(c.many,gJ c))
theorem Zr (s:ByteArray): ∀l:List lI,TB.look s (l.map fun c=>(ig c,(c.many,gJ c)))=(l.find? fun c=>c.word==s.data.toList).map fun c=>(c.many,gJ c):=by
 intro l
 induction l with
 |nil=>rfl
 |cons c l ih=>
  rw[List.map_cons,TB.look,List.find?_cons,ih]
  by_cases h:s=ig c
  ·subst h
   have:(c.word==(ig c).data.toList)=true:=by simp[ig]
   rw[aF rfl,this]
   rfl
  ·have:(c.word==s.data.toList)=false:=by
    rw[Io]
    intro e
    refine h ?_
    cases s with
    |mk a=>simp only[ig] at*;rw[e]
   rw[ak h,this]
theorem Zq (s:ByteArray):TB.look s QU=(Hw s.data.toList).map fun c=>(c.many,gJ c):=Zr s MZ
theorem Ku (k:TypeId) (hk:Tryz.prog.underlying k=some .string) (a b:ByteArray) (w:World):(Op.equal k (.string a) (.string b)).run Tryz.prog w= .ok (decide (a=b)) w:=by
 unfold Op.equal Op.maxDepth
 simp only[go_sem,hk]
 rw[show(a.toList==b.toList)=decide (a=b) from by rw[Bool.eq_iff_iff,Lib.bytes_beq_iff,eX]]
theorem Rx (k:TypeId) (hk:Tryz.prog.underlying k=some .string) (x:Value) (w:World): ∀(es:List MapEntry) (i:Nat) (r:Option (Nat×Value)),Instr.findNow .string x es i=some r->(Instr.findAsking k x es i).run Tryz.prog w= .ok r w:=by
 intro es
 induction es with
 |nil=>intro i r h;simp only[Instr.findNow,Option.some.injEq] at h;subst h;rfl
 |cons e es ih=>
  intro i r h
  unfold Instr.findNow at h
  cases hs:Instr.sameNow .string x e.key with
  |none=>rw[hs] at h;cases h
  |some b=>
   rw[hs] at h
   obtain⟨a,c,hx,hc,hb⟩: ∃a c:ByteArray,x= .string a/\e.key= .string c/\b=decide (a=c):=by
    revert hs
    cases x <;>cases e.key <;>simp[Instr.sameNow]
    rename_i a c
    intro h
    rw[<-h]
    rw[Bool.eq_iff_iff,Go.MapKept.bytes_beq,eX]
   subst hx
   conv=>lhs;unfold Instr.findAsking
   simp only[Sem.run_bind,hc,Ku k hk a c w,Result.andThen_ok]
   cases b
   ·rw[<-hb]
    simp only[Bool.false_eq_true,if_false]
    exact ih (i+1) r h
   ·rw[<-hb]
    simp only[Option.some.injEq] at h
    subst h
    simp
theorem uy:XR Tryz.prog 9 Vr (fun _=>True) where
 find w x es:=by
  have hk:Tryz.prog.underlying 9=some .string:=by kernel_rfl
  cases hn:Instr.findNow .string x es 0 with
  |none=>simp[Instr.findKey,run_underlying hk,hn]
  |some r=>
   rw[Rx 9 hk x w es 0 r hn]
   simp[Instr.findKey,run_underlying hk,hn]
 check b a w _:=by
  unfold Instr.checkKey
  simp[go_sem]
 eq a b w _ _:=Ku _ (by kernel_rfl) a b w
 bits a _:=by simp only[Instr.sameBits];exact(Go.MapKept.bytes_beq a a).2 rfl
theorem abA:TB.store (ig .vF) (lI.many .vF,gJ .vF) (TB.store (ig .CP) (lI.many .CP,gJ .CP) (TB.store (ig .fill) (lI.many .fill,gJ .fill) (TB.store (ig .qm) (lI.many .qm,gJ .qm) (TB.store (ig .strong) (lI.many .strong,gJ .strong) (TB.store (ig .heap) (lI.many .heap,gJ .heap) (TB.store (ig .unread) (lI.many .unread,gJ .unread) (TB.store (ig .Df) (lI.many .Df,gJ .Df) (TB.store (ig .qc) (lI.many .qc,gJ .qc) (TB.store (ig .turn) (lI.many .turn,gJ .turn) (TB.store (ig .bZ) (lI.many .bZ,gJ .bZ) (TB.store (ig .start) (lI.many .start,gJ .start) (TB.store (ig .void) (lI.many .void,gJ .void) (TB.store (ig .note) (lI.many .note,gJ .note) (TB.store (ig .box) (lI.many .box,gJ .box) (TB.store (ig .rate) (lI.many .rate,gJ .rate) (TB.store (ig .nz) (lI.many .nz,gJ .nz) (TB.store (ig .CJ) (lI.many .CJ,gJ .CJ) (TB.store (ig .tally) (lI.many .tally,gJ .tally) (TB.store (ig .left) (lI.many .left,gJ .left) (TB.store (ig .row) (lI.many .row,gJ .row) ([])))))))))))))))))))))=QU:=by
 decide+kernel
def ae3 (w:World) (e:Ending) (w':World):Prop:= ∃mb,e= .returned (.map (some mb))/\w.heap.size<=mb/\TabAt Vr wev (fun _=>True) w' mb QU/\Below w.heap.size w w'
theorem Vg (w:World):Calls Tryz.prog 98 #[] w (ae3 w):=by
 have hmm:= @run_makeMap Tryz.prog
 have hm:Tryz.prog.underlying 220=some (.map 9 218):=by kernel_rfl
 have h0:TabAt Vr wev (fun _=>True) (w.alloc (.map #[] 0)) w.heap.size []:=LC (ay _ _)
 obtain⟨W1,r1,t1,e1⟩:=fU uy hm h0 (ig .row) trivial (lI.many .row,gJ .row)
 obtain⟨W2,r2,t2,e2⟩:=fU uy hm t1 (ig .left) trivial (lI.many .left,gJ .left)
 obtain⟨W3,r3,t3,e3⟩:=fU uy hm t2 (ig .tally) trivial (lI.many .tally,gJ .tally)
 obtain⟨W4,r4,t4,e4⟩:=fU uy hm t3 (ig .CJ) trivial (lI.many .CJ,gJ .CJ)
 obtain⟨W5,r5,t5,e5⟩:=fU uy hm t4 (ig .nz) trivial (lI.many .nz,gJ .nz)
 obtain⟨W6,r6,t6,e6⟩:=fU uy hm t5 (ig .rate) trivial (lI.many .rate,gJ .rate)
 obtain⟨W7,r7,t7,e7⟩:=fU uy hm t6 (ig .box) trivial (lI.many .box,gJ .box)
 obtain⟨W8,r8,t8,e8⟩:=fU uy hm t7 (ig .note) trivial (lI.many .note,gJ .note)
 obtain⟨W9,r9,t9,e9⟩:=fU uy hm t8 (ig .void) trivial (lI.many .void,gJ .void)
 obtain⟨TU,r10,t10,e10⟩:=fU uy hm t9 (ig .start) trivial (lI.many .start,gJ .start)
 obtain⟨W11,r11,t11,e11⟩:=fU uy hm t10 (ig .bZ) trivial (lI.many .bZ,gJ .bZ)
 obtain⟨Yi,r12,t12,e12⟩:=fU uy hm t11 (ig .turn) trivial (lI.many .turn,gJ .turn)
 obtain⟨W13,r13,t13,e13⟩:=fU uy hm t12 (ig .qc) trivial (lI.many .qc,gJ .qc)
 obtain⟨U4,r14,t14,e14⟩:=fU uy hm t13 (ig .Df) trivial (lI.many .Df,gJ .Df)
 obtain⟨XK,r15,t15,e15⟩:=fU uy hm t14 (ig .unread) trivial (lI.many .unread,gJ .unread)
 obtain⟨W16,r16,t16,e16⟩:=fU uy hm t15 (ig .heap) trivial (lI.many .heap,gJ .heap)
 obtain⟨W17,r17,t17,e17⟩:=fU uy hm t16 (ig .strong) trivial (lI.many .strong,gJ .strong)
 obtain⟨W18,r18,t18,e18⟩:=fU uy hm t17 (ig .qm) trivial (lI.many .qm,gJ .qm)
 obtain⟨W19,r19,t19,e19⟩:=fU uy hm t18 (ig .fill) trivial (lI.many .fill,gJ .fill)
 obtain⟨W20,r20,t20,e20⟩:=fU uy hm t19 (ig .CP) trivial (lI.many .CP,gJ .CP)
 obtain⟨W21,r21,t21,e21⟩:=fU uy hm t20 (ig .vF) trivial (lI.many .vF,gJ .vF)
 rw[abA] at t21
 have hE:Ext [w.heap.size] (w.alloc (.map #[] 0)) W21:=(e1.trans (e2.trans (e3.trans (e4.trans (e5.trans (e6.trans (e7.trans (e8.trans (e9.trans (e10.trans (e11.trans (e12.trans (e13.trans (e14.trans (e15.trans (e16.trans (e17.trans (e18.trans (e19.trans (e20.trans e21))))))))))))))))))))
 have HB:=ae (show Below w.heap.size w W21 from(aj (aH _ _) _).trans ⟨hE.os,hE.tape,hE.output,hE.size,fun b hb=>hE.block b (by simp;omega) (by simp;omega)⟩)
 have HT:=ae t21
 have HE:Hid (w.heap.size<=w.heap.size):=ae (ai _)
 clear h0 hE hm t1 t2 t3 t4 t5 t6 t7 t8 t9 t10 t11 t12 t13 t14 t15 t16 t17 t18 t19 t20 t21 e1 e2 e3 e4 e5 e6 e7 e8 e9 e10 e11 e12 e13 e14 e15 e16 e17 e18 e19 e20 e21
 simp only[ig,lI.word,lI.many,gJ,Vr,wev,iv,Int.cast_ofNat_Int,Int.natCast_zero,Int.natCast_one] at r1 r2 r3 r4 r5 r6 r7 r8 r9 r10 r11 r12 r13 r14 r15 r16 r17 r18 r19 r20 r21
 go_enter Tryz.func98,Tryz.ntmps98
 go_wp2
 go_returns
 exact⟨_,by simp,ai _,HT.o,HB.o⟩
theorem Qb {w:World} {b n:Nat} {l:List Bool} {cs:Array Value} {t:TypeId} (h:w.heap[b]? =some (.cells cs t (0,0))) (hc:cs.toList=dK l) (hn:n=l.length) (hm:l.length<=100):Cj w (.slice (some ⟨b,0,none⟩) n n) l:=by
 subst hn
 refine⟨by simp[dK],_,_,rfl,ai _,by simp only[maxLen];omega,(fun h=>by cases h),fun a ha=>?_⟩
 cases ha
 refine⟨rfl,?_⟩
 rw[<-hc]
 exact xX h
theorem dX (code:Int) (l:List Bool) (w:World) (hm:l.length<=100) (cs:Array Value) (hc:cs.toList=dK l) (t:TypeId) (n:Nat) (hn:n=l.length):
 Calls Tryz.prog 99 #[iv code,.slice (some ⟨w.heap.size,0,none⟩) n n] (w.alloc (.cells cs t)) (TZ code (l.contains true) w):=by
 refine(Q7 code l _ _ (Qb (ay _ _) hc hn hm)).mono ?_
 rintro e w' ⟨hb,h⟩
 exact⟨aY (aj (aH _ _) _) hb,h⟩
theorem qI (a b:Int) (w:World):Calls Tryz.prog 241 #[iv a,iv b] w (TZ 3 (decide (b<=a)) w):=by
 go_enter Tryz.func241,Tryz.ntmps241
 go_wp2_with fail
 refine(dX 3 [decide (b<=a)] w (by simp) _ (by simp[dK]) _ _ rfl).mono ?_
 rintro e w1 ⟨hb,⟨hc,rfl⟩|⟨hc,rfl⟩⟩
 ·(try go_wp2_with fail)
  go_end0
  exact⟨hb,.inl ⟨by simpa using hc,rfl⟩⟩
 ·exact⟨rfl,hb,.inr ⟨by simpa using hc,rfl⟩⟩
theorem jf (a b:Int) (w:World):Calls Tryz.prog 243 #[iv a,iv b] w (TZ 7 (decide (b<=a)) w):=by
 go_enter Tryz.func243,Tryz.ntmps243
 go_wp2_with fail
 refine(dX 7 [decide (b<=a)] w (by simp) _ (by simp[dK]) _ _ rfl).mono ?_
 rintro e w1 ⟨hb,⟨hc,rfl⟩|⟨hc,rfl⟩⟩
 ·(try go_wp2_with fail)
  go_end0
  exact⟨hb,.inl ⟨by simpa using hc,rfl⟩⟩
 ·exact⟨rfl,hb,.inr ⟨by simpa using hc,rfl⟩⟩
theorem Gg (a b m:Int) (w:World):Calls Tryz.prog 296 #[iv a,iv b,iv m] w (TZ 2 (decide (b<a) ||decide (m<b)) w):=by
 go_enter Tryz.func296,Tryz.ntmps296
 go_wp2_with fail
 refine(dX 2 [decide (b<a),decide (m<b)] w (by simp) _ (by simp[dK]) _ _ rfl).mono ?_
 rintro e w1 ⟨hb,⟨hc,rfl⟩|⟨hc,rfl⟩⟩
 ·(try go_wp2_with fail)
  go_end0
  exact⟨hb,.inl ⟨by simpa using hc,rfl⟩⟩
 ·exact⟨rfl,hb,.inr ⟨by simpa using hc,rfl⟩⟩
theorem Ad (a b m k:Int) (w:World) (hx:0<=a/\a<=100000/\0<=k/\k<=100000):Calls Tryz.prog 247 #[iv a,iv b,iv m,iv k] w (TZ 2 (decide (b<a) ||(decide (m<b) ||decide (a+k<b))) w):=by
 go_enter Tryz.func247,Tryz.ntmps247
 go_wp2_with fail
 refine(dX 2 [decide (b<a),decide (m<b),decide (a+k<b)] w (by simp) _ (by simp[dK]) _ _ rfl).mono ?_
 rintro e w1 ⟨hb,⟨hc,rfl⟩|⟨hc,rfl⟩⟩
 ·(try go_wp2_with fail)
  go_end0
  exact⟨hb,.inl ⟨by simpa using hc,rfl⟩⟩
 ·exact⟨rfl,hb,.inr ⟨by simpa using hc,rfl⟩⟩
end Go.Proofs.YthllkbbbapgelaaGreatDoor.Bk
end
section
namespace Go.Proofs.YthllkbbbapgelaaGreatDoor.Bk
open Go.RowKit Go.RG Go.SL Go.Shelf jy Go.TB Go.Proofs.YthllkbbbapgelaaGreatDoor.AQ
structure Row where
 t:TypeId
 size:Nat
 v:Value
 n:Nat
 xs:List Value
structure xB (N:Nat) (w:World) (wb:Nat) (R:List Row):Prop where
 own: ∀(i:Nat) (r:Row),R[i]? =some r->w.ownsRow N r.t r.size r.v r.n r.xs
 apart: ∀(i j:Nat) (a b:Row),R[i]? =some a->R[j]? =some b->i≠j->a.v.ownBlock=none∨a.v.ownBlock≠b.v.ownBlock
 off: ∀(i:Nat) (r:Row),R[i]? =some r->r.v.ownBlock≠some wb
 lt:wb<w.heap.size
 base:N<=wb
theorem dn {w W:World} {N:Nat} {t:TypeId} {size:Nat} {v:Value} {n:Nat} {xs:List Value} (h:w.ownsRow N t size v n xs) {Ms:List Nat} (hE:Ext Ms w W) (hM: ∀b,v.ownBlock=some b->b∉Ms):W.ownsRow N t size v n xs:=by
 obtain⟨h1,h2|⟨g,c,cs,rfl,hb,hc,h3⟩⟩:=h
 ·exact⟨h1,.inl h2⟩
 ·exact⟨h1,.inr ⟨g,c,cs,rfl,hb,(hE.block g (aS.1 hc).1 (hM g rfl)).trans hc,h3⟩⟩
theorem xB.keep {N:Nat} {w W:World} {wb:Nat} {R:List Row} (h:xB N w wb R) {Ms:List Nat} (hE:Ext Ms w W) (hM: ∀m∈Ms,m=wb∨m<N):xB N W wb R where
 own i r hr:=dn (h.own i r hr) hE (fun b hb hm=>by
  rcases hM b hm with rfl|h1
  ·exact h.off i r hr hb
  ·have:=((h.own i r hr).lt b hb).1;omega)
 apart:=h.apart
 off:=h.off
 lt:=fH h.lt hE.size
 base:=h.base
theorem xB.put {N:Nat} {w W:World} {wb:Nat} {R:List Row} (h:xB N w wb R) {i:Nat} {r:Row} (hr:R[i]? =some r) (r':Row) {Ms:List Nat} (hE:Ext Ms w W) (hM: ∀m∈Ms,m=wb∨m<N∨r.v.ownBlock=some m)
 (ho:W.ownsRow N r'.t r'.size r'.v r'.n r'.xs) (hb:r'.v.ownBlock=r.v.ownBlock∨r'.v.ownBlock=none∨ ∃k,r'.v.ownBlock=some k/\w.heap.size<=k):xB N W wb (R.set i r'):=by
 have hlt:=(je.1 hr).1
 have key: ∀(j:Nat) (x:Row),(R.set i r')[j]? =some x->(j=i/\x=r')∨(j≠i/\R[j]? =some x):=by
  intro j x hx
  rw[List.getElem?_set] at hx
  by_cases e:i=j
  ·subst e
   rw[aF rfl,aF hlt] at hx
   exact .inl ⟨rfl,(jD hx).symm⟩
  ·rw[ak e] at hx
   exact .inr ⟨fun h=>e h.symm,hx⟩
 have new: ∀(j:Nat) (x:Row),R[j]? =some x->j≠i->x.v.ownBlock=none∨x.v.ownBlock≠r'.v.ownBlock:=by
  intro j x hx hj
  rcases hb with hb|hb|⟨k,hk,hs⟩
  ·rw[hb];exact h.apart j i x r hx hr hj
  ·rw[hb]
   cases x.v.ownBlock with
   |none=>exact .inl rfl
   |some b=>exact .inr (by simp)
  ·rw[hk]
   cases hxb:x.v.ownBlock with
   |none=>exact .inl rfl
   |some b=>
    refine .inr fun e=>?_
    obtain rfl:=jD e
    have:=((h.own j x hx).lt b hxb).2
    omega
 refine⟨fun j x hx=>?_,fun j k a b ha hbb hjk=>?_,fun j x hx=>?_,fH h.lt hE.size,h.base⟩
 ·rcases key j x hx with⟨rfl,rfl⟩|⟨hj,hx'⟩
  ·exact ho
  ·refine dn (h.own j x hx') hE (fun b hbb hm=>?_)
   rcases hM b hm with rfl|h1|h1
   ·exact h.off j x hx' hbb
   ·have:=((h.own j x hx').lt b hbb).1;omega
   ·rcases h.apart j i x r hx' hr hj with h2|h2
    ·rw[h2] at hbb;cases hbb
    ·exact h2 (hbb.trans h1.symm)
 ·rcases key j a ha with⟨rfl,rfl⟩|⟨hj,ha'⟩
  ·rcases key k b hbb with⟨rfl,rfl⟩|⟨hk,hb'⟩
   ·exact absurd rfl hjk
   ·rcases new k b hb' hk with h1|h1
    ·rcases hq:a.v.ownBlock with _|q
     ·exact .inl rfl
     ·exact .inr (by rw[h1];simp)
    ·exact .inr fun e=>h1 e.symm
  ·rcases key k b hbb with⟨rfl,rfl⟩|⟨hk,hb'⟩
   ·exact new j a ha' hj
   ·exact h.apart j k a b ha' hb' hjk
 ·rcases key j x hx with⟨rfl,rfl⟩|⟨hj,hx'⟩
  ·rcases hb with hb|hb|⟨k,hk,hs⟩
   ·rw[hb];exact h.off _ r hr
   ·rw[hb];simp
   ·rw[hk];intro e;obtain rfl:=jD e;have:=h.lt;omega
  ·exact h.off j x hx'
theorem xB.push {N:Nat} {w W:World} {wb:Nat} {R:List Row} (h:xB N w wb R) (r':Row) {Ms:List Nat} (hE:Ext Ms w W) (hM: ∀m∈Ms,m=wb∨m<N)
 (ho:W.ownsRow N r'.t r'.size r'.v r'.n r'.xs) (hb:r'.v.ownBlock=none∨ ∃k,r'.v.ownBlock=some k/\w.heap.size<=k):xB N W wb (R++[r']):=by
 have hk:=h.keep hE hM
 have key: ∀(j:Nat) (x:Row),(R++[r'])[j]? =some x->(R[j]? =some x)∨(j=R.length/\x=r'):=by
  intro j x hx
  by_cases hj:j<R.length
  ·rw[ve hj] at hx;exact .inl hx
  ·rw[oG (by omega)] at hx
   have h0:=(je.1 hx).1
   simp only[List.length_cons,List.length_nil] at h0
   have:j-R.length=0:=by omega
   rw[this] at hx
   simp only[List.getElem?_cons_zero,Option.some.injEq] at hx
   exact .inr ⟨by omega,hx.symm⟩
 have new: ∀(j:Nat) (x:Row),R[j]? =some x->(x.v.ownBlock=none∨x.v.ownBlock≠r'.v.ownBlock)/\(r'.v.ownBlock=none∨r'.v.ownBlock≠x.v.ownBlock):=by
  intro j x hx
  rcases hb with hb|⟨k,hk,hs⟩
  ·rw[hb]
   refine⟨?_,.inl rfl⟩
   cases x.v.ownBlock with
   |none=>exact .inl rfl
   |some b=>exact .inr (by simp)
  ·have:x.v.ownBlock≠some k:=fun e=>by have:=((h.own j x hx).lt k e).2;omega
   rw[hk]
   exact⟨.inr this,.inr fun e=>this e.symm⟩
 refine⟨fun j x hx=>?_,fun j k a b ha hbb hjk=>?_,fun j x hx=>?_,hk.lt,h.base⟩
 ·rcases key j x hx with h1|⟨_,rfl⟩
  ·exact hk.own j x h1
  ·exact ho
 ·rcases key j a ha with h1|⟨h1,rfl⟩ <;>rcases key k b hbb with h2|⟨h2,rfl⟩
  ·exact h.apart j k a b h1 h2 hjk
  ·exact(new j a h1).1
  ·exact(new k b h2).2
  ·omega
 ·rcases key j x hx with h1|⟨_,rfl⟩
  ·exact h.off j x h1
  ·rcases hb with hb|⟨k,hk,hs⟩
   ·rw[hb];simp
   ·rw[hk];intro e;obtain rfl:=jD e;have:=h.lt;omega
structure SV where
 xE:Value
 VY:Value
 bZ:Value
 IQ:Value
 Qw:Value
 hps:Value
 cks:Value
 trs:Value
abbrev dS (s:jO) (V:SV):Array Value:=
 #[iv s.led.field.rows,iv s.led.field.aK,iv s.led.field.left.1,iv s.led.field.left.2,V.xE,iv s.led.rate,iv s.led.box.1,iv s.led.box.2,V.VY,
   iv s.heap.last,iv s.heap.size,iv s.heap.aZ,iv s.heap.die,iv s.heap.uF,iv s.heap.start.1,iv s.heap.start.2,V.bZ,V.IQ,V.Qw,V.hps,V.cks,V.trs]
def zD (e:KE):Row:=⟨3,1,e.1,e.2.length,ah e.2⟩
def iK (s:jO) (V:SV) (es:List KE):List Row:=
 [⟨186,5,V.xE,s.led.field.ax.length,dL s.led.field.ax⟩,⟨188,3,V.VY,s.led.notes.length,aX s.led.notes⟩,
   ⟨50,2,V.bZ,s.heap.bZ.length,aG s.heap.bZ⟩,⟨3,1,V.IQ,s.heap.turns.length,ah s.heap.turns⟩,⟨190,3,V.Qw,s.heap.readings.length,aX s.heap.readings⟩,
   ⟨129,2,V.hps,s.dA.heaps.length,aG s.dA.heaps⟩,⟨52,1,V.cks,es.length,eU es⟩,⟨192,4,V.trs,s.dA.aJ.length,gK s.dA.aJ⟩]++es.map zD
structure jT (N:Nat) (w:World) (wb:Nat) (s:jO) (V:SV) (es:List KE):Prop where
 blk:w.heap[wb]? =some (.cells (dS s V) 228 (0,0))
 rows:xB N w wb (iK s V es)
 es:es.map (·.2)=s.dA.aU
def rV (N:Nat) (w:World) (ns:Value) (l:List Int):Prop:= ∃b c,ns= .slice (some ⟨b,0,none⟩) l.length c/\b<N/\ ∀(j:Nat) (h:j<l.length),w.cell? ⟨b,j,none⟩=some (iv l[j])
def rC (N:Nat) (wb:Nat) (x:Int×jO) (w:World) (e:Ending) (w':World):Prop:=
 Below N w w'/\((x.1=0/\e= .returned (.tuple #[])/\ ∃V es,jT N w' wb x.2 V es)∨(x.1≠0/\e= .panicked (kH x.1)))
theorem eH {N:Nat} {w:World} {wb:Nat} {s:jO} {V:SV} {es:List KE} (h:jT N w wb s V es):N<=w.heap.size:=by have:=h.rows.lt;have:=h.rows.base;omega
theorem jT.below {N:Nat} {w W:World} {wb:Nat} {s:jO} {V:SV} {es:List KE} (h:jT N w wb s V es) (hb:Below w.heap.size w W):jT N W wb s V es:=
 ⟨(hb.block _ h.rows.lt).trans h.blk,h.rows.keep (Ms:=[]) (Ext.aA hb) (by simp),h.es⟩
theorem jT.store {N:Nat} {w W:World} {wb:Nat} {s s':jO} {V:SV} {es:List KE} (h:jT N w wb s V es) (hE:Ext [wb] w W) (hb:W.heap[wb]? =some (.cells (dS s' V) 228 (0,0))) (hr:iK s' V es=iK s V es) (hc:s'.dA.aU=s.dA.aU):jT N W wb s' V es:=
 ⟨hb,by rw[hr];exact h.rows.keep hE (fun m hm=> .inl (by simpa using hm)),by rw[hc];exact h.es⟩
theorem gz {W:World} {b off:Nat} {v:Value}:Ext [b] W (W.setCell ⟨b,off,none⟩ v):=
 ⟨rfl,rfl,rfl,by simp[World.setCell],fun k _ hm=>heap_setCell_other W _ k v (by simpa using hm)⟩
theorem bW (a b m:Int):(Le a b m=false)= ¬(a<=b/\b<=m):=by
 unfold Le
 by_cases h1:a<=b <;>by_cases h2:b<=m <;>simp[h1,h2]
theorem bY (a b m k:Int):(LD a b m k=false)= ¬(a<=b/\b<=m/\b<=a+k):=by
 unfold LD
 by_cases h1:a<=b <;>by_cases h2:b<=m <;>by_cases h3:b<=a+k <;>simp[h1,h2,h3]
def ae6 (c:Prop) (v:Value) (w:World) (e:Ending) (w':World):Prop:=Below w.heap.size w w'/\((c/\e= .returned v)∨(¬c/\e= .panicked (kH 2)))
theorem wF {N wb:Nat} {x:Int×jO} {w w':World} {c:Int} (h3:Below N w w') (hx:x.1=c) (hc:c≠0):rC N wb x w (.panicked (kH c)) w':=⟨h3,.inr ⟨by rw[hx];exact hc,by rw[hx]⟩⟩
theorem vO (a b:Int) (w:World):Calls Tryz.prog 245 #[iv a,iv b] w (ae6 (a<=b/\b<=2000) (rv (a,b)) w):=by
 go_enter Tryz.func245,Tryz.ntmps245
 go_wp2_with fail
 refine(Gg _ _ _ _).mono ?_
 rintro e w1 ⟨hb,⟨hc,rfl⟩|⟨hc,rfl⟩⟩
 ·simp only[Bool.or_eq_false_iff,decide_eq_false_iff_not] at hc
  have HB:=ae hb
  obtain⟨c0,f0,l0⟩:=af ((hb.block w.heap.size (by simp)).trans (ay _ _))
  have HC:=ae hc
  have c00:=c0 0
  have c01:=c0 1
  simp at c00 c01
  have d0:(w1.setCell ⟨w.heap.size,0,none⟩ (iv a)).cell? ⟨w.heap.size,0,none⟩=some (iv a):=World.cell?_setCell_same _ _ _ c00
  have d1:((w1.setCell ⟨w.heap.size,0,none⟩ (iv a)).setCell ⟨w.heap.size,1,none⟩ (iv b)).cell? ⟨w.heap.size,1,none⟩=some (iv b):=World.cell?_setCell_same _ _ _ ((World.cell?_setCell_other _ _ _ _ (by simp)).trans c01)
  clear hb hc c0
  go_wp2_with fail
  (try simp only[Exit.inBlock,Exit.then])
  refine bodyPost_ret (v:=rv (a,b)) (by simp[results,Tryz.results245,go_sem,d0,d1]) rfl ?_
  exact⟨((aY (aj (aH _ _) _) HB.o).setCell (ai _) _).setCell (ai _) _,.inl ⟨by have:=HC.o;omega,rfl⟩⟩
 ·simp only[Bool.or_eq_true,eX] at hc
  exact⟨rfl,aY (aj (aH _ _) _) hb,.inr ⟨by omega,rfl⟩⟩
theorem uO (a b:Int) (wb:Nat) (s:jO) (V:SV) (w:World) (hblk:w.heap[wb]? =some (.cells (dS s V) 228 (0,0))):Calls Tryz.prog 242 #[.pointer (some ⟨wb,0,none⟩),iv a,iv b] w (ae6 (a<=b/\b<=s.led.field.rows) (rv (a,b)) w):=by
 obtain⟨k0,g0,j0⟩:=af hblk
 clear hblk
 go_enter Tryz.func242,Tryz.ntmps242
 go_wp2_with fail
 refine(Gg _ _ _ _).mono ?_
 rintro e w1 ⟨hb,⟨hc,rfl⟩|⟨hc,rfl⟩⟩
 ·simp only[Bool.or_eq_false_iff,decide_eq_false_iff_not] at hc
  have HB:=ae hb
  obtain⟨c0,f0,l0⟩:=af ((hb.block w.heap.size (by simp)).trans (ay _ _))
  have HC:=ae hc
  have c00:=c0 0
  have c01:=c0 1
  simp at c00 c01
  have d0:(w1.setCell ⟨w.heap.size,0,none⟩ (iv a)).cell? ⟨w.heap.size,0,none⟩=some (iv a):=World.cell?_setCell_same _ _ _ c00
  have d1:((w1.setCell ⟨w.heap.size,0,none⟩ (iv a)).setCell ⟨w.heap.size,1,none⟩ (iv b)).cell? ⟨w.heap.size,1,none⟩=some (iv b):=World.cell?_setCell_same _ _ _ ((World.cell?_setCell_other _ _ _ _ (by simp)).trans c01)
  clear hb hc c0 k0 g0 j0
  go_wp2_with fail
  (try simp only[Exit.inBlock,Exit.then])
  refine bodyPost_ret (v:=rv (a,b)) (by simp[results,Tryz.results242,go_sem,d0,d1]) rfl ?_
  exact⟨((aY (aj (aH _ _) _) HB.o).setCell (ai _) _).setCell (ai _) _,.inl ⟨by have:=HC.o;omega,rfl⟩⟩
 ·simp only[Bool.or_eq_true,eX] at hc
  exact⟨rfl,aY (aj (aH _ _) _) hb,.inr ⟨by omega,rfl⟩⟩
theorem wC (a b k:Int) (w:World) (hx:0<=a/\a<=100000/\0<=k/\k<=100000):Calls Tryz.prog 252 #[iv a,iv b,iv k] w (ae6 (a<=b/\b<=100/\b<=a+k) (rv (a,b)) w):=by
 go_enter Tryz.func252,Tryz.ntmps252
 go_wp2_with fail
 refine(Ad _ _ _ _ _ hx).mono ?_
 rintro e w1 ⟨hb,⟨hc,rfl⟩|⟨hc,rfl⟩⟩
 ·simp only[Bool.or_eq_false_iff,decide_eq_false_iff_not] at hc
  have HB:=ae hb
  obtain⟨c0,f0,l0⟩:=af ((hb.block w.heap.size (by simp)).trans (ay _ _))
  have HC:=ae hc
  have c00:=c0 0
  have c01:=c0 1
  simp at c00 c01
  have d0:(w1.setCell ⟨w.heap.size,0,none⟩ (iv a)).cell? ⟨w.heap.size,0,none⟩=some (iv a):=World.cell?_setCell_same _ _ _ c00
  have d1:((w1.setCell ⟨w.heap.size,0,none⟩ (iv a)).setCell ⟨w.heap.size,1,none⟩ (iv b)).cell? ⟨w.heap.size,1,none⟩=some (iv b):=World.cell?_setCell_same _ _ _ ((World.cell?_setCell_other _ _ _ _ (by simp)).trans c01)
  clear hb hc c0
  go_wp2_with fail
  (try simp only[Exit.inBlock,Exit.then])
  refine bodyPost_ret (v:=rv (a,b)) (by simp[results,Tryz.results252,go_sem,d0,d1]) rfl ?_
  exact⟨((aY (aj (aH _ _) _) HB.o).setCell (ai _) _).setCell (ai _) _,.inl ⟨by have:=HC.o;omega,rfl⟩⟩
 ·simp only[Bool.or_eq_true,eX] at hc
  exact⟨rfl,aY (aj (aH _ _) _) hb,.inr ⟨by omega,rfl⟩⟩
theorem yw (a:Int) (wb:Nat) (s:jO) (V:SV) (w:World) (hblk:w.heap[wb]? =some (.cells (dS s V) 228 (0,0))) (hl:s.heap.last=4):Calls Tryz.prog 248 #[.pointer (some ⟨wb,0,none⟩),iv a] w (TZ 7 (decide (4<a)) w):=by
 obtain⟨k0,g0,j0⟩:=af hblk
 clear hblk
 go_enter Tryz.func248,Tryz.ntmps248
 go_wp2_with fail
 refine(jf _ _ _).mono ?_
 rintro e w1 ⟨hb,⟨hc,rfl⟩|⟨hc,rfl⟩⟩
 ·(try go_wp2_with fail)
  go_end0
  exact⟨hb,.inl ⟨by simp at hc⊢;omega,rfl⟩⟩
 ·exact⟨rfl,hb,.inr ⟨by simp at hc⊢;omega,rfl⟩⟩
theorem abL (N:Nat) (w:World) (wb:Nat) (s:jO) (V:SV) (es:List KE) (ns:Value) (hO:jT N w wb s V es) (hG:fO s):Calls Tryz.prog 153 #[.pointer (some ⟨wb,0,none⟩),ns] w (rC N wb (jh s .row []) w):=by
 have HO:=ae hO
 have hr:=hG.rows
 obtain⟨c0,f0,l0⟩:=af hO.blk
 clear hO hG
 go_enter Tryz.func153,Tryz.ntmps153
 go_wp2_with fail
 refine(qI _ _ _).mono ?_
 rintro e w1 ⟨hb,⟨hc,rfl⟩|⟨hc,rfl⟩⟩
 ·obtain⟨c1,f1,l1⟩:=af ((hb.block _ l0).trans HO.o.blk)
  have HB:=ae hb
  clear hb c0 f0
  have hlt: ¬5<=s.led.field.rows:=by simpa using hc
  have hlt':s.led.field.rows<5:=by omega
  clear hc
  go_wp2_with fail
  go_end0
  have Aq:=HO.o.below HB.o
  simp only[jh]
  rw[ak (by omega)]
  refine⟨(HB.o.mono (eH HO.o)).setCell HO.o.rows.base _,.inl ⟨rfl,rfl,V,es,?_⟩⟩
  exact Aq.store gz (aI Aq.blk _) rfl rfl
 ·have hge:5<=s.led.field.rows:=by simpa using hc
  simp only[jh]
  rw[aF hge]
  exact⟨rfl,hb.mono (eH HO.o),.inr ⟨by simp,rfl⟩⟩
theorem Y1 (N:Nat) (w:World) (wb:Nat) (s:jO) (V:SV) (es:List KE) (ns:Value) (x:Int) (hO:jT N w wb s V es) (hn:rV N w ns [x]):Calls Tryz.prog 158 #[.pointer (some ⟨wb,0,none⟩),ns] w (rC N wb (jh s .rate [x]) w):=by
 obtain⟨vt,vn,vw,vu,vr,vh,vk,vs⟩:=V
 have HO:=ae hO
 have gI:=eH hO
 obtain⟨b,c,rfl,hbN,hcs⟩:=hn
 have lb:b<w.heap.size:=by omega
 have lw:=hO.rows.lt
 have wB:=hO.rows.base
 have HW:Hid (∀W,Below N w W->b<W.heap.size/\ ∀(j:Nat) (h:j<[x].length),W.cell? ⟨b,j,none⟩=some (iv [x][j])):=ae (fun W hB=>⟨by have:=hB.size;omega,fun j h=>(jd (hB.block b hbN)).trans (hcs j h)⟩)
 obtain⟨c0,f0,l0⟩:=af hO.blk
 have oU:=hcs 0 (by simp)
 simp only[au] at oU
 have HB0:Hid (Below w.heap.size w w):=ae (aH _ _)
 clear hO hcs
 go_enter Tryz.func158,Tryz.ntmps158
 go_wp2_with fail
 refine zg 8 [] none [] ?_
 simp only[zt]
 repeat ((first|refine zd ?_|refine zk ?_);simp only[zp])
 intro W1 hE hF
 have HB1:=ae (aY HB0.o hE.below)
 clear hE hF c0 f0 oU
 obtain⟨c1,f1,l1⟩:=af ((HB1.o.block _ lw).trans HO.o.blk)
 obtain⟨wL,hcs1⟩:=HW.o W1 (HB1.o.mono gI)
 have n10:=hcs1 0 (by simp)
 simp only[au] at n10
 clear hcs1
 go_wp2_with fail
 refine(dX 2 [x==0,decide (50<x)] W1 (by simp) _ (by simp[dK]) _ _ rfl).mono ?_
 rintro e W2 ⟨hb,⟨hc,rfl⟩|⟨hc,rfl⟩⟩
 rotate_left
 ·simp at hc
  simp only[jh,bW,bY,dD]
  (repeat (first|rw[aF (by omega)]|rw[ak (by omega)]))
  exact⟨rfl,(aY HB1.o hb).mono gI,.inr ⟨by simp,rfl⟩⟩
 simp at hc
 have HB2:=ae (aY HB1.o hb)
 have jQ:=ae hc
 clear hb hc c1 f1 wL n10
 obtain⟨c2,f2,l2⟩:=af ((HB2.o.block _ lw).trans HO.o.blk)
 obtain⟨xG,hcs2⟩:=HW.o W2 (HB2.o.mono gI)
 have n20:=hcs2 0 (by simp)
 simp only[au] at n20
 clear hcs2
 go_wp2_with fail
 go_end0
 have q0:=jQ.o
 simp only[jh,bW,bY,dD]
 (repeat (first|rw[aF (by omega)]|rw[ak (by omega)]))
 have Aq:=HO.o.below HB2.o
 exact⟨((HB2.o.mono gI).setCell wB _),.inl ⟨rfl,rfl,_,es,Aq.store (gz) (aI (Aq.blk) _) rfl rfl⟩⟩
theorem acH (N:Nat) (w:World) (wb:Nat) (s:jO) (V:SV) (es:List KE) (ns:Value) (x y:Int) (hO:jT N w wb s V es) (hn:rV N w ns [x,y]):Calls Tryz.prog 159 #[.pointer (some ⟨wb,0,none⟩),ns] w (rC N wb (jh s .box [x,y]) w):=by
 obtain⟨vt,vn,vw,vu,vr,vh,vk,vs⟩:=V
 have HO:=ae hO
 have gI:=eH hO
 obtain⟨b,c,rfl,hbN,hcs⟩:=hn
 have lb:b<w.heap.size:=by omega
 have lw:=hO.rows.lt
 have wB:=hO.rows.base
 have HW:Hid (∀W,Below N w W->b<W.heap.size/\ ∀(j:Nat) (h:j<[x,y].length),W.cell? ⟨b,j,none⟩=some (iv [x,y][j])):=ae (fun W hB=>⟨by have:=hB.size;omega,fun j h=>(jd (hB.block b hbN)).trans (hcs j h)⟩)
 obtain⟨c0,f0,l0⟩:=af hO.blk
 have oU:=hcs 0 (by simp)
 simp only[au] at oU
 have n01:=hcs 1 (by simp)
 simp only[au] at n01
 have HB0:Hid (Below w.heap.size w w):=ae (aH _ _)
 clear hO hcs
 go_enter Tryz.func159,Tryz.ntmps159
 go_wp2_with fail
 refine RX.gy (fun ps W'=> ¬(x<=y/\y<=2000)/\ps=kH 2/\Below N w W') 8 [] none [(7,⟨fun _ v=>v=rv (x,y),fun _ _ _=>(x<=y/\y<=2000)⟩)] (by rintro ps a1 Wx hdf ⟨h1,rfl,h3⟩;refine⟨hdf,wF (c:=2) h3 ?_ (by decide)⟩;simp only[jh,bW,bY,dD];(repeat (first|rw[aF (by omega)]|rw[ak (by omega)]))) (by as_aux_lemma=>kernel_rfl) (by as_aux_lemma=>kernel_rfl) ?_
 simp only[zt]
 repeat (refine RX.zd ?_;simp only[zp])
 refine RX.bG _ (by rfl) (by rfl) ⟨_,rfl⟩ (fun Wq hE2 hF2=>?_) (fun v Wa Wb ho hE=>ho) (fun v hv=>?_)
 ·have hE':Ext [] w Wq:=hE2
  refine RX.dE 245 #[iv x,iv y] (by go_simp;try rfl) ?_
  refine(vO x y Wq).mono ?_
  rintro e w' ⟨hb,⟨hc,rfl⟩|⟨hc,rfl⟩⟩
  ·exact .inl ⟨_,rfl,rfl,hc,Ext.aA hb⟩
  ·exact .inr ⟨_,rfl,hc,rfl,(aY HB0.o (aY hE'.below hb)).mono gI⟩
 obtain rfl:v=rv (x,y):=hv
 simp only[zp]
 intro W1 hE hF
 have hc:x<=y/\y<=2000:=hF _ (bF _)
 have HB1:=ae (aY HB0.o (show Ext [] w W1 from hE).below)
 have jQ:=ae hc
 clear hE hF hc c0 f0 oU n01
 obtain⟨c1,f1,l1⟩:=af ((HB1.o.block _ lw).trans HO.o.blk)
 obtain⟨wL,hcs1⟩:=HW.o W1 (HB1.o.mono gI)
 have n10:=hcs1 0 (by simp)
 simp only[au] at n10
 have n11:=hcs1 1 (by simp)
 simp only[au] at n11
 clear hcs1
 go_wp2_with fail
 go_end0
 have q0:=jQ.o
 simp only[jh,bW,bY,dD]
 (repeat (first|rw[aF (by omega)]|rw[ak (by omega)]))
 have Aq:=HO.o.below HB1.o
 exact⟨(((HB1.o.mono gI).setCell wB _).setCell wB _),.inl ⟨rfl,rfl,_,es,Aq.store ((gz).trans gz) (aI (aI (Aq.blk) _) _) rfl rfl⟩⟩
theorem Zu (N:Nat) (w:World) (wb:Nat) (s:jO) (V:SV) (es:List KE) (ns:Value) (x y:Int) (hO:jT N w wb s V es) (hn:rV N w ns [x,y]):Calls Tryz.prog 154 #[.pointer (some ⟨wb,0,none⟩),ns] w (rC N wb (jh s .left [x,y]) w):=by
 obtain⟨vt,vn,vw,vu,vr,vh,vk,vs⟩:=V
 have HO:=ae hO
 have gI:=eH hO
 obtain⟨b,c,rfl,hbN,hcs⟩:=hn
 have lb:b<w.heap.size:=by omega
 have lw:=hO.rows.lt
 have wB:=hO.rows.base
 have HW:Hid (∀W,Below N w W->b<W.heap.size/\ ∀(j:Nat) (h:j<[x,y].length),W.cell? ⟨b,j,none⟩=some (iv [x,y][j])):=ae (fun W hB=>⟨by have:=hB.size;omega,fun j h=>(jd (hB.block b hbN)).trans (hcs j h)⟩)
 obtain⟨c0,f0,l0⟩:=af hO.blk
 have oU:=hcs 0 (by simp)
 simp only[au] at oU
 have n01:=hcs 1 (by simp)
 simp only[au] at n01
 have HB0:Hid (Below w.heap.size w w):=ae (aH _ _)
 clear hO hcs
 go_enter Tryz.func154,Tryz.ntmps154
 go_wp2_with fail
 refine RX.gy (fun ps W'=> ¬(x<=y/\y<=s.led.field.rows)/\ps=kH 2/\Below N w W') 9 [] none [(8,⟨fun _ v=>v=rv (x,y),fun _ _ _=>(x<=y/\y<=s.led.field.rows)⟩)] (by rintro ps a1 Wx hdf ⟨h1,rfl,h3⟩;refine⟨hdf,wF (c:=2) h3 ?_ (by decide)⟩;simp only[jh,bW,bY,dD];(repeat (first|rw[aF (by omega)]|rw[ak (by omega)]))) (by as_aux_lemma=>kernel_rfl) (by as_aux_lemma=>kernel_rfl) ?_
 simp only[zt]
 repeat (refine RX.zd ?_;simp only[zp])
 refine RX.bG _ (by rfl) (by rfl) ⟨_,rfl⟩ (fun Wq hE2 hF2=>?_) (fun v Wa Wb ho hE=>ho) (fun v hv=>?_)
 ·have hE':Ext [] w Wq:=hE2
  refine RX.dE 242 #[.pointer (some ⟨wb,0,none⟩),iv x,iv y] (by go_simp;try rfl) ?_
  refine(uO x y wb s _ Wq ((hE'.block _ lw (by simp)).trans HO.o.blk)).mono ?_
  rintro e w' ⟨hb,⟨hc,rfl⟩|⟨hc,rfl⟩⟩
  ·exact .inl ⟨_,rfl,rfl,hc,Ext.aA hb⟩
  ·exact .inr ⟨_,rfl,hc,rfl,(aY HB0.o (aY hE'.below hb)).mono gI⟩
 obtain rfl:v=rv (x,y):=hv
 simp only[zp]
 intro W1 hE hF
 have hc:x<=y/\y<=s.led.field.rows:=hF _ (bF _)
 have HB1:=ae (aY HB0.o (show Ext [] w W1 from hE).below)
 have jQ:=ae hc
 clear hE hF hc c0 f0 oU n01
 obtain⟨c1,f1,l1⟩:=af ((HB1.o.block _ lw).trans HO.o.blk)
 obtain⟨wL,hcs1⟩:=HW.o W1 (HB1.o.mono gI)
 have n10:=hcs1 0 (by simp)
 simp only[au] at n10
 have n11:=hcs1 1 (by simp)
 simp only[au] at n11
 clear hcs1
 go_wp2_with fail
 go_end0
 have q0:=jQ.o
 simp only[jh,bW,bY,dD]
 (repeat (first|rw[aF (by omega)]|rw[ak (by omega)]))
 have Aq:=HO.o.below HB1.o
 exact⟨(((HB1.o.mono gI).setCell wB _).setCell wB _),.inl ⟨rfl,rfl,_,es,Aq.store ((gz).trans gz) (aI (aI (Aq.blk) _) _) rfl rfl⟩⟩
theorem Vs (N:Nat) (w:World) (wb:Nat) (s:jO) (V:SV) (es:List KE) (ns:Value) (x y:Int) (hO:jT N w wb s V es) (hn:rV N w ns [x,y]) (hx:0<=x/\x<=9999):Calls Tryz.prog 162 #[.pointer (some ⟨wb,0,none⟩),ns] w (rC N wb (jh s .start [x,y]) w):=by
 obtain⟨vt,vn,vw,vu,vr,vh,vk,vs⟩:=V
 have HO:=ae hO
 have gI:=eH hO
 obtain⟨b,c,rfl,hbN,hcs⟩:=hn
 have lb:b<w.heap.size:=by omega
 have lw:=hO.rows.lt
 have wB:=hO.rows.base
 have HW:Hid (∀W,Below N w W->b<W.heap.size/\ ∀(j:Nat) (h:j<[x,y].length),W.cell? ⟨b,j,none⟩=some (iv [x,y][j])):=ae (fun W hB=>⟨by have:=hB.size;omega,fun j h=>(jd (hB.block b hbN)).trans (hcs j h)⟩)
 obtain⟨c0,f0,l0⟩:=af hO.blk
 have oU:=hcs 0 (by simp)
 simp only[au] at oU
 have n01:=hcs 1 (by simp)
 simp only[au] at n01
 have HB0:Hid (Below w.heap.size w w):=ae (aH _ _)
 clear hO hcs
 go_enter Tryz.func162,Tryz.ntmps162
 go_wp2_with fail
 refine zg 6 [] none [] ?_
 simp only[zt]
 repeat ((first|refine zd ?_|refine zk ?_);simp only[zp])
 intro W1 hE hF
 have HB1:=ae (aY HB0.o hE.below)
 clear hE hF c0 f0 oU n01
 obtain⟨c1,f1,l1⟩:=af ((HB1.o.block _ lw).trans HO.o.blk)
 obtain⟨wL,hcs1⟩:=HW.o W1 (HB1.o.mono gI)
 have n10:=hcs1 0 (by simp)
 simp only[au] at n10
 have n11:=hcs1 1 (by simp)
 simp only[au] at n11
 clear hcs1
 go_wp2_with fail
 refine(Ad _ _ _ _ _ (by omega)).mono ?_
 rintro e W2 ⟨hb,⟨hc,rfl⟩|⟨hc,rfl⟩⟩
 rotate_left
 ·simp at hc
  simp only[jh,bW,bY,dD]
  (repeat (first|rw[aF (by omega)]|rw[ak (by omega)]))
  exact⟨rfl,(aY HB1.o hb).mono gI,.inr ⟨by simp,rfl⟩⟩
 simp at hc
 have HB2:=ae (aY HB1.o hb)
 have jQ:=ae hc
 clear hb hc c1 f1 wL n10 n11
 obtain⟨c2,f2,l2⟩:=af ((HB2.o.block _ lw).trans HO.o.blk)
 obtain⟨xG,hcs2⟩:=HW.o W2 (HB2.o.mono gI)
 have n20:=hcs2 0 (by simp)
 simp only[au] at n20
 have n21:=hcs2 1 (by simp)
 simp only[au] at n21
 clear hcs2
 go_wp2_with fail
 refine zg 8 [] none [] ?_
 simp only[zt]
 repeat ((first|refine zd ?_|refine zk ?_);simp only[zp])
 intro W3 hE hF
 have HB3:=ae (aY HB2.o hE.below)
 clear hE hF c2 f2 xG n20 n21
 obtain⟨c3,f3,l3⟩:=af ((HB3.o.block _ lw).trans HO.o.blk)
 obtain⟨J3,hcs3⟩:=HW.o W3 (HB3.o.mono gI)
 have n30:=hcs3 0 (by simp)
 simp only[au] at n30
 have n31:=hcs3 1 (by simp)
 simp only[au] at n31
 clear hcs3
 go_wp2_with fail
 go_end0
 have q0:=jQ.o
 simp only[jh,bW,bY,dD]
 (repeat (first|rw[aF (by omega)]|rw[ak (by omega)]))
 have Aq:=HO.o.below HB3.o
 exact⟨(((HB3.o.mono gI).setCell wB _).setCell wB _),.inl ⟨rfl,rfl,_,es,Aq.store ((gz).trans gz) (aI (aI (Aq.blk) _) _) rfl rfl⟩⟩
theorem jT.put {N:Nat} {w W:World} {wb:Nat} {s s':jO} {V V':SV} {es es':List KE} (h:jT N w wb s V es) {i:Nat} {r:Row} (hr:(iK s V es)[i]? =some r) (r':Row) {Ms:List Nat} (hE:Ext Ms w W) (hM: ∀m∈Ms,r.v.ownBlock=some m)
 (ho:W.ownsRow N r'.t r'.size r'.v r'.n r'.xs) (hb:r'.v.ownBlock=r.v.ownBlock∨ ∃k,r'.v.ownBlock=some k/\w.heap.size<=k) {off:Nat} {u:Value} (hblk:(W.setCell ⟨wb,off,none⟩ u).heap[wb]? =some (.cells (dS s' V') 228 (0,0)))
 (hrows:iK s' V' es'=(iK s V es).set i r') (hes:es'.map (·.2)=s'.dA.aU):jT N (W.setCell ⟨wb,off,none⟩ u) wb s' V' es':=by
 refine⟨hblk,?_,hes⟩
 rw[hrows]
 have h1:=h.rows.put hr r' hE (fun m hm=> .inr (.inr (hM m hm))) ho (hb.imp id .inr)
 exact h1.keep gz (fun m hm=> .inl (by simpa using hm))
theorem aT {w:World} {base:Nat} {e:TypeId} {size:Nat} {v:Value} {n:Nat} {xs:List Value} (h:w.ownsRow base e size v n xs): ∃o c,v= .slice o n c:=by
 obtain⟨h1,⟨rfl,rfl⟩|⟨g,c,cs,rfl,h3⟩⟩:=h
 ·exact⟨none,0,rfl⟩
 ·exact⟨_,_,rfl⟩
theorem Gm (x y z:Int): ∀u∈[iv x,iv y,iv z],u.oneCell'=true:=by simp[Value.oneCell']
theorem Oi (x y z p q:Int): ∀u∈[iv x,iv y,iv z,iv p,iv q],u.oneCell'=true:=by simp[Value.oneCell']
theorem abP (x y z:Int): ∀u∈[Value.bool true,iv x,iv y,iv z],u.oneCell'=true:=by simp[Value.oneCell']
theorem Ze (x y:Int): ∀u∈[iv x,iv y],u.oneCell'=true:=by simp[Value.oneCell']
theorem one_one (x:Int): ∀u∈[iv x],u.oneCell'=true:=by simp[Value.oneCell']
theorem YO:iQ Tryz.prog 43 186 (.agg #[iv 0,iv 0,iv 0,iv 0,iv 0]) 5 40:=⟨Tryz.underlying43,by kernel_rfl,rfl,by omega⟩
theorem abG:iQ Tryz.prog 47 188 (.agg #[iv 0,iv 0,iv 0]) 3 24:=⟨Tryz.underlying47,by kernel_rfl,rfl,by omega⟩
theorem afY:iQ Tryz.prog 56 129 (rv (0,0)) 2 16:=⟨Tryz.underlying56,by kernel_rfl,rfl,by omega⟩
theorem af0:iQ Tryz.prog 57 52 (.slice none 0 0) 1 24:=⟨Tryz.underlying57,by kernel_rfl,rfl,by omega⟩
theorem abD:iQ Tryz.prog 58 192 (.agg #[.bool false,iv 0,iv 0,iv 0]) 4 32:=⟨Tryz.underlying58,by kernel_rfl,rfl,by omega⟩
theorem abE:iQ Tryz.prog 53 190 (.agg #[iv 0,iv 0,iv 0]) 3 24:=⟨Tryz.underlying53,by kernel_rfl,rfl,by omega⟩
theorem Zy (N:Nat) (w:World) (wb:Nat) (s:jO) (V:SV) (es:List KE) (ns:Value) (x y z:Int) (hO:jT N w wb s V es) (hn:rV N w ns [x,y,z]) (hG:fO s):Calls Tryz.prog 166 #[.pointer (some ⟨wb,0,none⟩),ns] w (rC N wb (jh s .Df [x,y,z]) w):=by
 obtain⟨vt,vn,vw,vu,vr,vh,vk,vs⟩:=V
 obtain⟨o,cc,rfl⟩: ∃o c,vr= .slice o s.heap.readings.length c:=aT (n:=s.heap.readings.length) (hO.rows.own 4 _ rfl)
 have HO:=ae hO
 have gI:=eH hO
 obtain⟨b,c,rfl,hbN,hcs⟩:=hn
 have lb:b<w.heap.size:=by omega
 have lw:=hO.rows.lt
 have wB:=hO.rows.base
 have HW:Hid (∀W,Below N w W->b<W.heap.size/\ ∀(j:Nat) (h:j<[x,y,z].length),W.cell? ⟨b,j,none⟩=some (iv [x,y,z][j])):=ae (fun W hB=>⟨by have:=hB.size;omega,fun j h=>(jd (hB.block b hbN)).trans (hcs j h)⟩)
 obtain⟨c0,f0,l0⟩:=af hO.blk
 have oU:=hcs 0 (by simp)
 simp only[au] at oU
 have n01:=hcs 1 (by simp)
 simp only[au] at n01
 have n02:=hcs 2 (by simp)
 simp only[au] at n02
 have HB0:Hid (Below w.heap.size w w):=ae (aH _ _)
 have hl4:=hG.heap.1
 have LZ:=hG.reads
 clear hO hcs hG
 go_enter Tryz.func166,Tryz.ntmps166
 go_wp2_with fail
 refine(yw x wb s _ w ((HB0.o.block _ lw).trans HO.o.blk) hl4).mono ?_
 rintro e W1 ⟨hb,⟨hc,rfl⟩|⟨hc,rfl⟩⟩
 rotate_left
 ·simp at hc
  simp only[jh,bW,bY,dD]
  (repeat (first|rw[aF (by omega)]|rw[ak (by omega)]))
  exact⟨rfl,(aY HB0.o hb).mono gI,.inr ⟨by simp,rfl⟩⟩
 simp at hc
 have HB1:=ae (aY HB0.o hb)
 have jQ:=ae hc
 clear hb hc c0 f0 oU n01 n02
 obtain⟨c1,f1,l1⟩:=af ((HB1.o.block _ lw).trans HO.o.blk)
 obtain⟨wL,hcs1⟩:=HW.o W1 (HB1.o.mono gI)
 have n10:=hcs1 0 (by simp)
 simp only[au] at n10
 have n11:=hcs1 1 (by simp)
 simp only[au] at n11
 have n12:=hcs1 2 (by simp)
 simp only[au] at n12
 clear hcs1
 go_wp2_with fail
 refine zg 8 [] none [] ?_
 simp only[zt]
 repeat ((first|refine zd ?_|refine zk ?_);simp only[zp])
 intro W2 hE hF
 have HB2:=ae (aY HB1.o hE.below)
 clear hE hF c1 f1 wL n10 n11 n12
 obtain⟨c2,f2,l2⟩:=af ((HB2.o.block _ lw).trans HO.o.blk)
 obtain⟨xG,hcs2⟩:=HW.o W2 (HB2.o.mono gI)
 have n20:=hcs2 0 (by simp)
 simp only[au] at n20
 have n21:=hcs2 1 (by simp)
 simp only[au] at n21
 have n22:=hcs2 2 (by simp)
 simp only[au] at n22
 clear hcs2
 go_wp2_with fail
 refine(dX 2 [decide (1000<y),decide (50<z)] W2 (by simp) _ (by simp[dK]) _ _ rfl).mono ?_
 rintro e W3 ⟨hb,⟨hc,rfl⟩|⟨hc,rfl⟩⟩
 rotate_left
 ·simp at hc
  have q0:=jQ.o
  simp only[jh,bW,bY,dD]
  (repeat (first|rw[aF (by omega)]|rw[ak (by omega)]))
  exact⟨rfl,(aY HB2.o hb).mono gI,.inr ⟨by simp,rfl⟩⟩
 simp at hc
 have HB3:=ae (aY HB2.o hb)
 have rD:=ae hc
 clear hb hc c2 f2 xG n20 n21 n22
 obtain⟨c3,f3,l3⟩:=af ((HB3.o.block _ lw).trans HO.o.blk)
 obtain⟨J3,hcs3⟩:=HW.o W3 (HB3.o.mono gI)
 have n30:=hcs3 0 (by simp)
 simp only[au] at n30
 have n31:=hcs3 1 (by simp)
 simp only[au] at n31
 have n32:=hcs3 2 (by simp)
 simp only[au] at n32
 clear hcs3
 go_wp2_with fail
 refine(qI _ _ _).mono ?_
 rintro e W4 ⟨hb,⟨hc,rfl⟩|⟨hc,rfl⟩⟩
 rotate_left
 ·simp at hc
  have q0:=jQ.o
  have q1:=rD.o
  simp only[jh,bW,bY,dD]
  (repeat (first|rw[aF (by omega)]|rw[ak (by omega)]))
  exact⟨rfl,(aY HB3.o hb).mono gI,.inr ⟨by simp,rfl⟩⟩
 simp at hc
 have HB4:=ae (aY HB3.o hb)
 have yL:=ae hc
 clear hb hc c3 f3 J3 n30 n31 n32
 obtain⟨c4,f4,l4⟩:=af ((HB4.o.block _ lw).trans HO.o.blk)
 obtain⟨Qz,kC⟩:=HW.o W4 (HB4.o.mono gI)
 have n40:=kC 0 (by simp)
 simp only[au] at n40
 have n41:=kC 1 (by simp)
 simp only[au] at n41
 have n42:=kC 2 (by simp)
 simp only[au] at n42
 clear kC
 go_wp2_with fail
 obtain⟨Ms,hMs⟩: ∃Ms,Ms=(Value.slice o s.heap.readings.length cc).ownBlock.toList:=⟨_,rfl⟩
 have hO4:=HO.o.below HB4.o
 have hm1:wb∉Ms:=fun h=>hO4.rows.off 4 _ rfl (by rw[hMs] at h;exact dJ.1 h)
 have hm2:b∉Ms:=fun h=>by have:=((hO4.rows.own 4 _ rfl).lt b (by rw[hMs] at h;exact dJ.1 h)).1;omega
 have uu: ∀m∈Ms,m<W4.heap.size:=fun m h=>((hO4.rows.own 4 _ rfl).lt m (by rw[hMs] at h;exact dJ.1 h)).2
 have HM:=ae hMs
 have jw:=ae hO4
 clear hMs hO4
 refine zg 19 Ms (some 18) [(17,Spec.slice W4.heap.size #[iv x,iv y,iv z] 190 1),(18,⟨fun _ v=> ∃o2 c2,v= .slice o2 (s.heap.readings.length+1) c2,fun _ v Wx=>Wx.ownsRow N 190 3 v (s.heap.readings.length+1) (aX s.heap.readings++[iv x,iv y,iv z])/\(v.ownBlock=(Value.slice o s.heap.readings.length cc).ownBlock∨ ∃q,v.ownBlock=some q/\W4.heap.size<=q)⟩)] ?_
 simp only[zt]
 repeat ((first|refine zd ?_|refine zk ?_);simp only[zp])
 refine dY W4.heap.size _ _ 1 (by rfl) (ai _) (by rfl) uu (by simp) (fun W hW=>by go_simp;try rfl) (fun b6=>?_)
 simp only[zp]
 repeat ((first|refine zd ?_|refine zk ?_);simp only[zp])
 refine bG _ (by rfl) (by rfl) (by exact⟨.slice none (s.heap.readings.length+1) 0,none,0,rfl⟩) (fun W6 hE hF=>?_) (fun v Wa Wb ho hE=>?_) (fun v hv=>?_)
 ·have hE':Ext [] W4 W6:=hE
  obtain⟨b',hb',hge,hcc⟩:=hF _ (bF _) (by kernel_rfl)
  cases hb'
  have hown6:W6.ownsRow N 190 3 (.slice o s.heap.readings.length cc) s.heap.readings.length (aX s.heap.readings):=aC (Ms:=[]) (jw.o.rows.own 4 _ rfl) hE' (by simp)
  have hsrc:aN 3 W6 (.slice (some ⟨b6,0,none⟩) 1 1) 1 ([iv x,iv y,iv z]):=aN.dB 3 1 hcc rfl (by decide)
  refine Does.mono (dM abE (by rfl) (by rfl) hown6 (by rfl) hsrc (Gm x y z) (by omega) (by omega) (by have:=hE'.size;have:=HB4.o.size;omega)) ?_
  rintro v' W7 ⟨ho,hgr,hcase⟩
  refine⟨aT ho,⟨ho,?_⟩,⟨hgr.os,hgr.tape,hgr.output,hgr.size,fun b hb hn=>hgr.block b hb (fun e=>hn (by rw[HM.o];exact dJ.2 e.symm))⟩⟩
  rcases hcase with h1|h1
  ·exact .inl h1
  ·exact .inr ⟨_,h1,hE'.size⟩
 ·exact⟨aC (Ms:=[]) ho.1 hE (by simp),ho.2⟩
 obtain⟨o7,c7,rfl⟩:=hv
 simp only[zp]
 intro W5 hE hF
 obtain⟨qE,Ak⟩:=hF _ (bF _)
 have gY:Ext Ms W4 W5:=hE
 have hbl:=(gY.block wb jw.o.rows.lt hm1).trans jw.o.blk
 obtain⟨c5,f5,l5⟩:=af hbl
 have ja:=ae (ag gY (ag qE (ag Ak hbl)))
 have AU:Below N w W5:=(HB4.o.mono gI).trans ⟨gY.os,gY.tape,gY.output,gY.size,fun k hk=>gY.block k (by have:=HB4.o.size;omega) (fun h=>by have:=((jw.o.rows.own 4 _ rfl).lt k (by rw[HM.o] at h;exact dJ.1 h)).1;omega)⟩
 have oV:=ae AU
 clear hE hF gY qE Ak hbl AU hm1 hm2 uu c4 f4 Qz n40 n41 n42
 go_wp2_with fail
 go_end0
 have q0:=jQ.o
 have q1:=rD.o
 have q2:=yL.o
 simp only[jh,bW,bY,dD]
 (repeat (first|rw[aF (by omega)]|rw[ak (by omega)]))
 refine⟨oV.o.setCell wB _,.inl ⟨rfl,rfl,⟨vt,vn,vw,vu,.slice o7 (s.heap.readings.length+1) c7,vh,vk,vs⟩,es,jw.o.put (i:=4) rfl ⟨190,3,.slice o7 (s.heap.readings.length+1) c7,s.heap.readings.length+1,aX s.heap.readings++[iv x,iv y,iv z]⟩ ja.o.1 (fun m hm=>by rw[HM.o] at hm;exact dJ.1 hm) ja.o.2.1 ja.o.2.2.1 (aI ja.o.2.2.2 _) (by simp[iK,iR,aX]) (jw.o.es)⟩⟩
theorem note_any (N:Nat) (w:World) (wb:Nat) (s:jO) (V:SV) (es:List KE) (ns:Value) (x y z:Int) (hO:jT N w wb s V es) (hn:rV N w ns [x,y,z]) (hG:fO s):Calls Tryz.prog 160 #[.pointer (some ⟨wb,0,none⟩),ns] w (rC N wb (jh s .note [x,y,z]) w):=by
 obtain⟨vt,vn,vw,vu,vr,vh,vk,vs⟩:=V
 obtain⟨o,cc,rfl⟩: ∃o c,vn= .slice o s.led.notes.length c:=aT (n:=s.led.notes.length) (hO.rows.own 1 _ rfl)
 have HO:=ae hO
 have gI:=eH hO
 obtain⟨b,c,rfl,hbN,hcs⟩:=hn
 have lb:b<w.heap.size:=by omega
 have lw:=hO.rows.lt
 have wB:=hO.rows.base
 have HW:Hid (∀W,Below N w W->b<W.heap.size/\ ∀(j:Nat) (h:j<[x,y,z].length),W.cell? ⟨b,j,none⟩=some (iv [x,y,z][j])):=ae (fun W hB=>⟨by have:=hB.size;omega,fun j h=>(jd (hB.block b hbN)).trans (hcs j h)⟩)
 obtain⟨c0,f0,l0⟩:=af hO.blk
 have oU:=hcs 0 (by simp)
 simp only[au] at oU
 have n01:=hcs 1 (by simp)
 simp only[au] at n01
 have n02:=hcs 2 (by simp)
 simp only[au] at n02
 have HB0:Hid (Below w.heap.size w w):=ae (aH _ _)
 have LZ:=hG.notes
 have hwe:=hG.aK
 clear hO hcs hG
 go_enter Tryz.func160,Tryz.ntmps160
 go_wp2_with fail
 refine zg 10 [] none [] ?_
 simp only[zt]
 repeat ((first|refine zd ?_|refine zk ?_);simp only[zp])
 intro W1 hE hF
 have HB1:=ae (aY HB0.o hE.below)
 clear hE hF c0 f0 oU n01 n02
 obtain⟨c1,f1,l1⟩:=af ((HB1.o.block _ lw).trans HO.o.blk)
 obtain⟨wL,hcs1⟩:=HW.o W1 (HB1.o.mono gI)
 have n10:=hcs1 0 (by simp)
 simp only[au] at n10
 have n11:=hcs1 1 (by simp)
 simp only[au] at n11
 have n12:=hcs1 2 (by simp)
 simp only[au] at n12
 clear hcs1
 go_wp2_with fail
 refine(jf _ _ _).mono ?_
 rintro e W2 ⟨hb,⟨hc,rfl⟩|⟨hc,rfl⟩⟩
 rotate_left
 ·simp at hc
  simp only[jh,bW,bY,dD]
  (repeat (first|rw[aF (by omega)]|rw[ak (by omega)]))
  exact⟨rfl,(aY HB1.o hb).mono gI,.inr ⟨by simp,rfl⟩⟩
 simp at hc
 have HB2:=ae (aY HB1.o hb)
 have HS2:=ae hb
 have jQ:=ae hc
 clear hb hc c1 f1 wL n10 n11 n12
 obtain⟨c2,f2,l2⟩:=af ((HB2.o.block _ lw).trans HO.o.blk)
 obtain⟨xG,hcs2⟩:=HW.o W2 (HB2.o.mono gI)
 have n20:=hcs2 0 (by simp)
 simp only[au] at n20
 have n21:=hcs2 1 (by simp)
 simp only[au] at n21
 have n22:=hcs2 2 (by simp)
 simp only[au] at n22
 clear hcs2
 go_wp2_with fail
 refine RX.gy (fun ps W'=> ¬(y<=z/\z<=2000)/\ps=kH 2/\Below N w W') 12 [] none [(9,⟨fun _ v=>v=rv (y,z),fun _ _ _=>(y<=z/\z<=2000)⟩),(11,Spec.block W2.heap.size #[iv 0,iv 0,iv 0] 188)] (by rintro ps a1 Wx hdf ⟨h1,rfl,h3⟩;refine⟨hdf,wF (c:=2) h3 ?_ (by decide)⟩;have q0:=jQ.o;simp only[jh,bW,bY,dD];(repeat (first|rw[aF (by omega)]|rw[ak (by omega)]))) (by as_aux_lemma=>kernel_rfl) (by as_aux_lemma=>kernel_rfl) ?_
 simp only[zt]
 repeat (refine RX.zd ?_;simp only[zp])
 refine RX.bG _ (by rfl) (by rfl) ⟨_,rfl⟩ (fun Wq hE2 hF2=>?_) (fun v Wa Wb ho hE=>ho) (fun v hv=>?_)
 ·have hE':Ext [] W2 Wq:=hE2
  refine RX.dE 245 #[iv y,iv z] (by go_simp;try rfl) ?_
  refine(vO y z Wq).mono ?_
  rintro e w' ⟨hb,⟨hc,rfl⟩|⟨hc,rfl⟩⟩
  ·exact .inl ⟨_,rfl,rfl,hc,Ext.aA hb⟩
  ·exact .inr ⟨_,rfl,hc,rfl,(aY HB2.o (aY hE'.below hb)).mono gI⟩
 obtain rfl:v=rv (y,z):=hv
 simp only[zp]
 repeat (refine RX.zd ?_;simp only[zp])
 refine RX.jV W2.heap.size _ _ (by rfl) (ai _) (by rfl) (by simp) (by simp) (fun W hW=>by go_simp;try rfl) (fun b9=>?_)
 simp only[zp]
 intro Wb hE hF
 obtain⟨b9',wP,hge,hk9⟩:=hF _ (bF _)
 cases wP
 have hc:y<=z/\z<=2000:=hF _ (nJ _ (bF _))
 have HBb:=ae (aY HB2.o (show Ext [] W2 Wb from hE).below)
 have rD:=ae hc
 have qQ:=ae (ag (iW HB2.o.size hge) hk9)
 obtain⟨c9,f9,l9⟩:=af hk9
 clear hE hF hc hge hk9 c2 f2 xG n20 n21 n22
 go_upto_region 2 with(fail)
 refine dN fun W3 qi=>?_
 have HB3:=ae (show Below w.heap.size w W3 from by rw[qi];exact(((HBb.o).setCell qQ.o.1 _).setCell qQ.o.1 _).setCell qQ.o.1 _)
 have D8:=ae (show W3.heap[b9]? =some (.cells #[iv x,iv y,iv z] 188 (0,0)) from by rw[qi];exact aI (aI (aI (qQ.o.2) _) _) _)
 have Zo:b9<W3.heap.size:=(aS.1 D8.o).1
 clear qi c9 f9 l9
 obtain⟨c3,f3,l3⟩:=af ((HB3.o.block _ lw).trans HO.o.blk)
 obtain⟨J3,hcs3⟩:=HW.o W3 (HB3.o.mono gI)
 have n30:=hcs3 0 (by simp)
 simp only[au] at n30
 have n31:=hcs3 1 (by simp)
 simp only[au] at n31
 have n32:=hcs3 2 (by simp)
 simp only[au] at n32
 clear hcs3
 go_wp2_with fail
 refine(qI _ _ _).mono ?_
 rintro e W4 ⟨hb,⟨hc,rfl⟩|⟨hc,rfl⟩⟩
 rotate_left
 ·simp at hc
  have q0:=jQ.o
  have q1:=rD.o
  simp only[jh,bW,bY,dD]
  (repeat (first|rw[aF (by omega)]|rw[ak (by omega)]))
  exact⟨rfl,(aY HB3.o hb).mono gI,.inr ⟨by simp,rfl⟩⟩
 simp at hc
 have HB4:=ae (aY HB3.o hb)
 have U8:=ae hb
 have yL:=ae hc
 clear hb hc c3 f3 J3 n30 n31 n32
 obtain⟨c4,f4,l4⟩:=af ((HB4.o.block _ lw).trans HO.o.blk)
 obtain⟨Qz,kC⟩:=HW.o W4 (HB4.o.mono gI)
 have n40:=kC 0 (by simp)
 simp only[au] at n40
 have n41:=kC 1 (by simp)
 simp only[au] at n41
 have n42:=kC 2 (by simp)
 simp only[au] at n42
 clear kC
 go_wp2_with fail
 obtain⟨Ms,hMs⟩: ∃Ms,Ms=(Value.slice o s.led.notes.length cc).ownBlock.toList:=⟨_,rfl⟩
 have hO4:=HO.o.below HB4.o
 have hm1:wb∉Ms:=fun h=>hO4.rows.off 1 _ rfl (by rw[hMs] at h;exact dJ.1 h)
 have hm2:b∉Ms:=fun h=>by have:=((hO4.rows.own 1 _ rfl).lt b (by rw[hMs] at h;exact dJ.1 h)).1;omega
 have uu: ∀m∈Ms,m<W4.heap.size:=fun m h=>((hO4.rows.own 1 _ rfl).lt m (by rw[hMs] at h;exact dJ.1 h)).2
 obtain⟨c9,f9,l9⟩:=af ((U8.o.block _ Zo).trans D8.o)
 have hm9:b9∉Ms:=fun h=>by have:=((HO.o.rows.own 1 _ rfl).lt b9 (by rw[hMs] at h;exact dJ.1 h)).2;have:=qQ.o.1;omega
 have HM:=ae hMs
 have jw:=ae hO4
 clear hMs hO4
 refine zg 10 Ms (some 9) [(8,Spec.slice W4.heap.size #[iv x,iv y,iv z] 188 1),(9,⟨fun _ v=> ∃o2 c2,v= .slice o2 (s.led.notes.length+1) c2,fun _ v Wx=>Wx.ownsRow N 188 3 v (s.led.notes.length+1) (aX s.led.notes++[iv x,iv y,iv z])/\(v.ownBlock=(Value.slice o s.led.notes.length cc).ownBlock∨ ∃q,v.ownBlock=some q/\W4.heap.size<=q)⟩)] ?_
 simp only[zt]
 repeat ((first|refine zd ?_|refine zk ?_);simp only[zp])
 refine dY W4.heap.size _ _ 1 (by rfl) (ai _) (by rfl) uu (by simp) (fun W hW=>by go_simp;try rfl) (fun b6=>?_)
 simp only[zp]
 repeat ((first|refine zd ?_|refine zk ?_);simp only[zp])
 refine bG _ (by rfl) (by rfl) (by exact⟨.slice none (s.led.notes.length+1) 0,none,0,rfl⟩) (fun W6 hE hF=>?_) (fun v Wa Wb ho hE=>?_) (fun v hv=>?_)
 ·have hE':Ext [] W4 W6:=hE
  obtain⟨b',hb',hge,hcc⟩:=hF _ (bF _) (by kernel_rfl)
  cases hb'
  have hown6:W6.ownsRow N 188 3 (.slice o s.led.notes.length cc) s.led.notes.length (aX s.led.notes):=aC (Ms:=[]) (jw.o.rows.own 1 _ rfl) hE' (by simp)
  have hsrc:aN 3 W6 (.slice (some ⟨b6,0,none⟩) 1 1) 1 ([iv x,iv y,iv z]):=aN.dB 3 1 hcc rfl (by decide)
  refine Does.mono (dM abG (by rfl) (by rfl) hown6 (by rfl) hsrc (Gm x y z) (by omega) (by omega) (by have:=hE'.size;have:=HB4.o.size;omega)) ?_
  rintro v' W7 ⟨ho,hgr,hcase⟩
  refine⟨aT ho,⟨ho,?_⟩,⟨hgr.os,hgr.tape,hgr.output,hgr.size,fun b hb hn=>hgr.block b hb (fun e=>hn (by rw[HM.o];exact dJ.2 e.symm))⟩⟩
  rcases hcase with h1|h1
  ·exact .inl h1
  ·exact .inr ⟨_,h1,hE'.size⟩
 ·exact⟨aC (Ms:=[]) ho.1 hE (by simp),ho.2⟩
 obtain⟨o7,c7,rfl⟩:=hv
 simp only[zp]
 intro W5 hE hF
 obtain⟨qE,Ak⟩:=hF _ (bF _)
 have gY:Ext Ms W4 W5:=hE
 have hbl:=(gY.block wb jw.o.rows.lt hm1).trans jw.o.blk
 obtain⟨c5,f5,l5⟩:=af hbl
 have ja:=ae (ag gY (ag qE (ag Ak hbl)))
 have AU:Below N w W5:=(HB4.o.mono gI).trans ⟨gY.os,gY.tape,gY.output,gY.size,fun k hk=>gY.block k (by have:=HB4.o.size;omega) (fun h=>by have:=((jw.o.rows.own 1 _ rfl).lt k (by rw[HM.o] at h;exact dJ.1 h)).1;omega)⟩
 have oV:=ae AU
 clear hE hF gY qE Ak hbl AU hm1 hm2 uu c4 f4 Qz n40 n41 n42
 go_wp2_with fail
 go_end0
 have q0:=jQ.o
 have q1:=rD.o
 have q2:=yL.o
 simp only[jh,bW,bY,dD]
 (repeat (first|rw[aF (by omega)]|rw[ak (by omega)]))
 refine⟨oV.o.setCell wB _,.inl ⟨rfl,rfl,⟨vt,.slice o7 (s.led.notes.length+1) c7,vw,vu,vr,vh,vk,vs⟩,es,jw.o.put (i:=1) rfl ⟨188,3,.slice o7 (s.led.notes.length+1) c7,s.led.notes.length+1,aX s.led.notes++[iv x,iv y,iv z]⟩ ja.o.1 (fun m hm=>by rw[HM.o] at hm;exact dJ.1 hm) ja.o.2.1 ja.o.2.2.1 (aI ja.o.2.2.2 _) (by simp[iK,oI,aX]) (jw.o.es)⟩⟩
theorem KW (N:Nat) (w:World) (wb:Nat) (s:jO) (V:SV) (es:List KE) (ns:Value) (x y z p q:Int) (hO:jT N w wb s V es) (hn:rV N w ns [x,y,z,p,q]) (hG:fO s) (hyz:y<z):Calls Tryz.prog 155 #[.pointer (some ⟨wb,0,none⟩),ns] w (rC N wb (jh s .tally [x,y,z,p,q]) w):=by
 obtain⟨vt,vn,vw,vu,vr,vh,vk,vs⟩:=V
 obtain⟨o,cc,rfl⟩: ∃o c,vt= .slice o s.led.field.ax.length c:=aT (n:=s.led.field.ax.length) (hO.rows.own 0 _ rfl)
 have HO:=ae hO
 have gI:=eH hO
 obtain⟨b,c,rfl,hbN,hcs⟩:=hn
 have lb:b<w.heap.size:=by omega
 have lw:=hO.rows.lt
 have wB:=hO.rows.base
 have HW:Hid (∀W,Below N w W->b<W.heap.size/\ ∀(j:Nat) (h:j<[x,y,z,p,q].length),W.cell? ⟨b,j,none⟩=some (iv [x,y,z,p,q][j])):=ae (fun W hB=>⟨by have:=hB.size;omega,fun j h=>(jd (hB.block b hbN)).trans (hcs j h)⟩)
 obtain⟨c0,f0,l0⟩:=af hO.blk
 have oU:=hcs 0 (by simp)
 simp only[au] at oU
 have n01:=hcs 1 (by simp)
 simp only[au] at n01
 have n02:=hcs 2 (by simp)
 simp only[au] at n02
 have n03:=hcs 3 (by simp)
 simp only[au] at n03
 have n04:=hcs 4 (by simp)
 simp only[au] at n04
 have HB0:Hid (Below w.heap.size w w):=ae (aH _ _)
 have LZ:=hG.E5
 have hwe:=hG.aK
 have jQ:=ae hyz
 clear hO hcs hG
 go_enter Tryz.func155,Tryz.ntmps155
 go_wp2_with fail
 refine zg 7 [] none [] ?_
 simp only[zt]
 repeat ((first|refine zd ?_|refine zk ?_);simp only[zp])
 intro W1 hE hF
 have HB1:=ae (aY HB0.o hE.below)
 clear hE hF c0 f0 oU n01 n02 n03 n04
 obtain⟨c1,f1,l1⟩:=af ((HB1.o.block _ lw).trans HO.o.blk)
 obtain⟨wL,hcs1⟩:=HW.o W1 (HB1.o.mono gI)
 have n10:=hcs1 0 (by simp)
 simp only[au] at n10
 have n11:=hcs1 1 (by simp)
 simp only[au] at n11
 have n12:=hcs1 2 (by simp)
 simp only[au] at n12
 have n13:=hcs1 3 (by simp)
 simp only[au] at n13
 have n14:=hcs1 4 (by simp)
 simp only[au] at n14
 clear hcs1
 go_wp2_with fail
 refine(jf _ _ _).mono ?_
 rintro e W2 ⟨hb,⟨hc,rfl⟩|⟨hc,rfl⟩⟩
 rotate_left
 ·simp at hc
  have q0:=jQ.o
  simp only[jh,bW,bY,dD]
  (repeat (first|rw[aF (by omega)]|rw[ak (by omega)]))
  exact⟨rfl,(aY HB1.o hb).mono gI,.inr ⟨by simp,rfl⟩⟩
 simp at hc
 have HB2:=ae (aY HB1.o hb)
 have HS2:=ae hb
 have rD:=ae hc
 clear hb hc c1 f1 wL n10 n11 n12 n13 n14
 obtain⟨c2,f2,l2⟩:=af ((HB2.o.block _ lw).trans HO.o.blk)
 obtain⟨xG,hcs2⟩:=HW.o W2 (HB2.o.mono gI)
 have n20:=hcs2 0 (by simp)
 simp only[au] at n20
 have n21:=hcs2 1 (by simp)
 simp only[au] at n21
 have n22:=hcs2 2 (by simp)
 simp only[au] at n22
 have n23:=hcs2 3 (by simp)
 simp only[au] at n23
 have n24:=hcs2 4 (by simp)
 simp only[au] at n24
 clear hcs2
 go_wp2_with fail
 refine zg 11 [] none [] ?_
 simp only[zt]
 repeat ((first|refine zd ?_|refine zk ?_);simp only[zp])
 intro W3 hE hF
 have HB3:=ae (aY HB2.o hE.below)
 clear hE hF c2 f2 xG n20 n21 n22 n23 n24
 obtain⟨c3,f3,l3⟩:=af ((HB3.o.block _ lw).trans HO.o.blk)
 obtain⟨J3,hcs3⟩:=HW.o W3 (HB3.o.mono gI)
 have n30:=hcs3 0 (by simp)
 simp only[au] at n30
 have n31:=hcs3 1 (by simp)
 simp only[au] at n31
 have n32:=hcs3 2 (by simp)
 simp only[au] at n32
 have n33:=hcs3 3 (by simp)
 simp only[au] at n33
 have n34:=hcs3 4 (by simp)
 simp only[au] at n34
 clear hcs3
 go_wp2_with fail
 clear hyz
 refine(jf _ _ _).mono ?_
 rintro e W4 ⟨hb,⟨hc,rfl⟩|⟨hc,rfl⟩⟩
 rotate_left
 ·simp at hc
  have q0:=jQ.o
  have q1:=rD.o
  simp only[jh,bW,bY,dD]
  (repeat (first|rw[aF (by omega)]|rw[ak (by omega)]))
  exact⟨rfl,(aY HB3.o hb).mono gI,.inr ⟨by simp,rfl⟩⟩
 simp at hc
 have HB4:=ae (aY HB3.o hb)
 have U8:=ae hb
 have yL:=ae hc
 clear hb hc c3 f3 J3 n30 n31 n32 n33 n34
 obtain⟨c4,f4,l4⟩:=af ((HB4.o.block _ lw).trans HO.o.blk)
 obtain⟨Qz,kC⟩:=HW.o W4 (HB4.o.mono gI)
 have n40:=kC 0 (by simp)
 simp only[au] at n40
 have n41:=kC 1 (by simp)
 simp only[au] at n41
 have n42:=kC 2 (by simp)
 simp only[au] at n42
 have n43:=kC 3 (by simp)
 simp only[au] at n43
 have n44:=kC 4 (by simp)
 simp only[au] at n44
 clear kC
 go_wp2_with fail
 refine zg 6 [] none [] ?_
 simp only[zt]
 repeat ((first|refine zd ?_|refine zk ?_);simp only[zp])
 intro W5 hE hF
 have nD:=ae (aY HB4.o hE.below)
 clear hE hF c4 f4 Qz n40 n41 n42 n43 n44
 obtain⟨c5,f5,l5⟩:=af ((nD.o.block _ lw).trans HO.o.blk)
 obtain⟨lb5,uC⟩:=HW.o W5 (nD.o.mono gI)
 have n50:=uC 0 (by simp)
 simp only[au] at n50
 have n51:=uC 1 (by simp)
 simp only[au] at n51
 have n52:=uC 2 (by simp)
 simp only[au] at n52
 have n53:=uC 3 (by simp)
 simp only[au] at n53
 have n54:=uC 4 (by simp)
 simp only[au] at n54
 clear uC
 go_wp2_with fail
 refine(dX 2 [decide (z<y)] W5 (by simp) _ (by simp[dK]) _ _ rfl).mono ?_
 rintro e W6 ⟨hb,⟨hc,rfl⟩|⟨hc,rfl⟩⟩
 rotate_left
 ·simp at hc
  have q0:=jQ.o
  have q1:=rD.o
  have q2:=yL.o
  (exfalso;omega)
 simp at hc
 have pY:=ae (aY nD.o hb)
 have HS6:=ae hb
 have IM:=ae hc
 clear hb hc c5 f5 lb5 n50 n51 n52 n53 n54
 obtain⟨c6,f6,l6⟩:=af ((pY.o.block _ lw).trans HO.o.blk)
 obtain⟨lb6,uA⟩:=HW.o W6 (pY.o.mono gI)
 have n60:=uA 0 (by simp)
 simp only[au] at n60
 have n61:=uA 1 (by simp)
 simp only[au] at n61
 have n62:=uA 2 (by simp)
 simp only[au] at n62
 have n63:=uA 3 (by simp)
 simp only[au] at n63
 have n64:=uA 4 (by simp)
 simp only[au] at n64
 clear uA
 go_wp2_with fail
 refine RX.gy (fun ps W'=> ¬(p<=q/\q<=s.led.field.rows)/\ps=kH 2/\Below N w W') 19 [] none [(16,⟨fun _ v=>v=rv (p,q),fun _ _ _=>(p<=q/\q<=s.led.field.rows)⟩),(18,Spec.block W6.heap.size #[iv 0,iv 0,iv 0,iv 0,iv 0] 186)] (by rintro ps a1 Wx hdf ⟨h1,rfl,h3⟩;refine⟨hdf,wF (c:=2) h3 ?_ (by decide)⟩;have q0:=jQ.o;have q1:=rD.o;have q2:=yL.o;have q3:=IM.o;simp only[jh,bW,bY,dD];(repeat (first|rw[aF (by omega)]|rw[ak (by omega)]))) (by as_aux_lemma=>kernel_rfl) (by as_aux_lemma=>kernel_rfl) ?_
 simp only[zt]
 repeat (refine RX.zd ?_;simp only[zp])
 refine RX.bG _ (by rfl) (by rfl) ⟨_,rfl⟩ (fun Wq hE2 hF2=>?_) (fun v Wa Wb ho hE=>ho) (fun v hv=>?_)
 ·have hE':Ext [] W6 Wq:=hE2
  refine RX.dE 242 #[.pointer (some ⟨wb,0,none⟩),iv p,iv q] (by go_simp;try rfl) ?_
  refine(uO p q wb s _ Wq ((hE'.block _ (fH lw pY.o.size) (by simp)).trans ((pY.o.block _ lw).trans HO.o.blk))).mono ?_
  rintro e w' ⟨hb,⟨hc,rfl⟩|⟨hc,rfl⟩⟩
  ·exact .inl ⟨_,rfl,rfl,hc,Ext.aA hb⟩
  ·exact .inr ⟨_,rfl,hc,rfl,(aY pY.o (aY hE'.below hb)).mono gI⟩
 obtain rfl:v=rv (p,q):=hv
 simp only[zp]
 repeat (refine RX.zd ?_;simp only[zp])
 refine RX.jV W6.heap.size _ _ (by rfl) (ai _) (by rfl) (by simp) (by simp) (fun W hW=>by go_simp;try rfl) (fun b9=>?_)
 simp only[zp]
 intro Wb hE hF
 obtain⟨b9',wP,hge,hk9⟩:=hF _ (bF _)
 cases wP
 have hc:p<=q/\q<=s.led.field.rows:=hF _ (nJ _ (bF _))
 have HBb:=ae (aY pY.o (show Ext [] W6 Wb from hE).below)
 have U9:=ae hc
 have qQ:=ae (ag (iW pY.o.size hge) hk9)
 obtain⟨c9,f9,l9⟩:=af hk9
 clear hE hF hc hge hk9 c6 f6 lb6 n60 n61 n62 n63 n64
 go_upto_region 5 with(fail)
 refine dN fun W7 qi=>?_
 have zU:=ae (show Below w.heap.size w W7 from by rw[qi];exact(((((HBb.o).setCell qQ.o.1 _).setCell qQ.o.1 _).setCell qQ.o.1 _).setCell qQ.o.1 _).setCell qQ.o.1 _)
 have D8:=ae (show W7.heap[b9]? =some (.cells #[iv x,iv y,iv z,iv p,iv q] 186 (0,0)) from by rw[qi];exact aI (aI (aI (aI (aI (qQ.o.2) _) _) _) _) _)
 have Zo:b9<W7.heap.size:=(aS.1 D8.o).1
 clear qi c9 f9 l9
 obtain⟨c7,f7,l7⟩:=af ((zU.o.block _ lw).trans HO.o.blk)
 obtain⟨lb7,uz⟩:=HW.o W7 (zU.o.mono gI)
 have n70:=uz 0 (by simp)
 simp only[au] at n70
 have n71:=uz 1 (by simp)
 simp only[au] at n71
 have n72:=uz 2 (by simp)
 simp only[au] at n72
 have n73:=uz 3 (by simp)
 simp only[au] at n73
 have n74:=uz 4 (by simp)
 simp only[au] at n74
 clear uz
 go_wp2_with fail
 refine(qI _ _ _).mono ?_
 rintro e W8 ⟨hb,⟨hc,rfl⟩|⟨hc,rfl⟩⟩
 rotate_left
 ·simp at hc
  have q0:=jQ.o
  have q1:=rD.o
  have q2:=yL.o
  have q3:=IM.o
  have q4:=U9.o
  simp only[jh,bW,bY,dD]
  (repeat (first|rw[aF (by omega)]|rw[ak (by omega)]))
  exact⟨rfl,(aY zU.o hb).mono gI,.inr ⟨by simp,rfl⟩⟩
 simp at hc
 have oV:=ae (aY zU.o hb)
 have HS8:=ae hb
 have HQ5:=ae hc
 clear hb hc c7 f7 lb7 n70 n71 n72 n73 n74
 obtain⟨c8,f8,l8⟩:=af ((oV.o.block _ lw).trans HO.o.blk)
 obtain⟨lb8,Dk⟩:=HW.o W8 (oV.o.mono gI)
 have n80:=Dk 0 (by simp)
 simp only[au] at n80
 have n81:=Dk 1 (by simp)
 simp only[au] at n81
 have n82:=Dk 2 (by simp)
 simp only[au] at n82
 have n83:=Dk 3 (by simp)
 simp only[au] at n83
 have n84:=Dk 4 (by simp)
 simp only[au] at n84
 clear Dk
 go_wp2_with fail
 obtain⟨Ms,hMs⟩: ∃Ms,Ms=(Value.slice o s.led.field.ax.length cc).ownBlock.toList:=⟨_,rfl⟩
 have Ha:=HO.o.below oV.o
 have hm1:wb∉Ms:=fun h=>Ha.rows.off 0 _ rfl (by rw[hMs] at h;exact dJ.1 h)
 have hm2:b∉Ms:=fun h=>by have:=((Ha.rows.own 0 _ rfl).lt b (by rw[hMs] at h;exact dJ.1 h)).1;omega
 have uu: ∀m∈Ms,m<W8.heap.size:=fun m h=>((Ha.rows.own 0 _ rfl).lt m (by rw[hMs] at h;exact dJ.1 h)).2
 obtain⟨c9,f9,l9⟩:=af ((HS8.o.block _ Zo).trans D8.o)
 have hm9:b9∉Ms:=fun h=>by have:=((HO.o.rows.own 0 _ rfl).lt b9 (by rw[hMs] at h;exact dJ.1 h)).2;have:=qQ.o.1;omega
 have HM:=ae hMs
 have jw:=ae Ha
 clear hMs Ha
 refine zg 8 Ms (some 7) [(6,Spec.slice W8.heap.size #[iv x,iv y,iv z,iv p,iv q] 186 1),(7,⟨fun _ v=> ∃o2 c2,v= .slice o2 (s.led.field.ax.length+1) c2,fun _ v Wx=>Wx.ownsRow N 186 5 v (s.led.field.ax.length+1) (dL s.led.field.ax++[iv x,iv y,iv z,iv p,iv q])/\(v.ownBlock=(Value.slice o s.led.field.ax.length cc).ownBlock∨ ∃q,v.ownBlock=some q/\W8.heap.size<=q)⟩)] ?_
 simp only[zt]
 repeat ((first|refine zd ?_|refine zk ?_);simp only[zp])
 refine dY W8.heap.size _ _ 1 (by rfl) (ai _) (by rfl) uu (by simp) (fun W hW=>by go_simp;try rfl) (fun b6=>?_)
 simp only[zp]
 repeat ((first|refine zd ?_|refine zk ?_);simp only[zp])
 refine bG _ (by rfl) (by rfl) (by exact⟨.slice none (s.led.field.ax.length+1) 0,none,0,rfl⟩) (fun W6 hE hF=>?_) (fun v Wa Wb ho hE=>?_) (fun v hv=>?_)
 ·have hE':Ext [] W8 W6:=hE
  obtain⟨b',hb',hge,hcc⟩:=hF _ (bF _) (by kernel_rfl)
  cases hb'
  have hown6:W6.ownsRow N 186 5 (.slice o s.led.field.ax.length cc) s.led.field.ax.length (dL s.led.field.ax):=aC (Ms:=[]) (jw.o.rows.own 0 _ rfl) hE' (by simp)
  have hsrc:aN 5 W6 (.slice (some ⟨b6,0,none⟩) 1 1) 1 ([iv x,iv y,iv z,iv p,iv q]):=aN.dB 5 1 hcc rfl (by decide)
  refine Does.mono (dM YO (by rfl) (by rfl) hown6 (by rfl) hsrc (Oi x y z p q) (by omega) (by omega) (by have:=hE'.size;have:=oV.o.size;omega)) ?_
  rintro v' W7 ⟨ho,hgr,hcase⟩
  refine⟨aT ho,⟨ho,?_⟩,⟨hgr.os,hgr.tape,hgr.output,hgr.size,fun b hb hn=>hgr.block b hb (fun e=>hn (by rw[HM.o];exact dJ.2 e.symm))⟩⟩
  rcases hcase with h1|h1
  ·exact .inl h1
  ·exact .inr ⟨_,h1,hE'.size⟩
 ·exact⟨aC (Ms:=[]) ho.1 hE (by simp),ho.2⟩
 obtain⟨o7,c7,rfl⟩:=hv
 simp only[zp]
 intro W9 hE hF
 obtain⟨qE,Ak⟩:=hF _ (bF _)
 have gY:Ext Ms W8 W9:=hE
 have hbl:=(gY.block wb jw.o.rows.lt hm1).trans jw.o.blk
 obtain⟨c9,f9,l9⟩:=af hbl
 have ja:=ae (ag gY (ag qE (ag Ak hbl)))
 have AU:Below N w W9:=(oV.o.mono gI).trans ⟨gY.os,gY.tape,gY.output,gY.size,fun k hk=>gY.block k (by have:=oV.o.size;omega) (fun h=>by have:=((jw.o.rows.own 0 _ rfl).lt k (by rw[HM.o] at h;exact dJ.1 h)).1;omega)⟩
 have oV:=ae AU
 clear hE hF gY qE Ak hbl AU hm1 hm2 uu c8 f8 lb8 n80 n81 n82 n83 n84
 go_wp2_with fail
 go_end0
 have q0:=jQ.o
 have q1:=rD.o
 have q2:=yL.o
 have q3:=IM.o
 have q4:=U9.o
 have q5:=HQ5.o
 simp only[jh,bW,bY,dD]
 (repeat (first|rw[aF (by omega)]|rw[ak (by omega)]))
 refine⟨oV.o.setCell wB _,.inl ⟨rfl,rfl,⟨.slice o7 (s.led.field.ax.length+1) c7,vn,vw,vu,vr,vh,vk,vs⟩,es,jw.o.put (i:=0) rfl ⟨186,5,.slice o7 (s.led.field.ax.length+1) c7,s.led.field.ax.length+1,dL s.led.field.ax++[iv x,iv y,iv z,iv p,iv q]⟩ ja.o.1 (fun m hm=>by rw[HM.o] at hm;exact dJ.1 hm) ja.o.2.1 ja.o.2.2.1 (aI ja.o.2.2.2 _) (by simp[iK,ny,dL]) (jw.o.es)⟩⟩
theorem KX (N:Nat) (w:World) (wb:Nat) (s:jO) (V:SV) (es:List KE) (ns:Value) (x y z p q:Int) (hO:jT N w wb s V es) (hn:rV N w ns [x,y,z,p,q]) (hG:fO s) (hyz:z<=y):Calls Tryz.prog 155 #[.pointer (some ⟨wb,0,none⟩),ns] w (rC N wb (jh s .tally [x,y,z,p,q]) w):=by
 obtain⟨vt,vn,vw,vu,vr,vh,vk,vs⟩:=V
 obtain⟨o,cc,rfl⟩: ∃o c,vt= .slice o s.led.field.ax.length c:=aT (n:=s.led.field.ax.length) (hO.rows.own 0 _ rfl)
 have HO:=ae hO
 have gI:=eH hO
 obtain⟨b,c,rfl,hbN,hcs⟩:=hn
 have lb:b<w.heap.size:=by omega
 have lw:=hO.rows.lt
 have wB:=hO.rows.base
 have HW:Hid (∀W,Below N w W->b<W.heap.size/\ ∀(j:Nat) (h:j<[x,y,z,p,q].length),W.cell? ⟨b,j,none⟩=some (iv [x,y,z,p,q][j])):=ae (fun W hB=>⟨by have:=hB.size;omega,fun j h=>(jd (hB.block b hbN)).trans (hcs j h)⟩)
 obtain⟨c0,f0,l0⟩:=af hO.blk
 have oU:=hcs 0 (by simp)
 simp only[au] at oU
 have n01:=hcs 1 (by simp)
 simp only[au] at n01
 have n02:=hcs 2 (by simp)
 simp only[au] at n02
 have n03:=hcs 3 (by simp)
 simp only[au] at n03
 have n04:=hcs 4 (by simp)
 simp only[au] at n04
 have HB0:Hid (Below w.heap.size w w):=ae (aH _ _)
 have LZ:=hG.E5
 have hwe:=hG.aK
 have jQ:=ae hyz
 clear hO hcs hG
 go_enter Tryz.func155,Tryz.ntmps155
 go_wp2_with fail
 refine zg 7 [] none [] ?_
 simp only[zt]
 repeat ((first|refine zd ?_|refine zk ?_);simp only[zp])
 intro W1 hE hF
 have HB1:=ae (aY HB0.o hE.below)
 clear hE hF c0 f0 oU n01 n02 n03 n04
 obtain⟨c1,f1,l1⟩:=af ((HB1.o.block _ lw).trans HO.o.blk)
 obtain⟨wL,hcs1⟩:=HW.o W1 (HB1.o.mono gI)
 have n10:=hcs1 0 (by simp)
 simp only[au] at n10
 have n11:=hcs1 1 (by simp)
 simp only[au] at n11
 have n12:=hcs1 2 (by simp)
 simp only[au] at n12
 have n13:=hcs1 3 (by simp)
 simp only[au] at n13
 have n14:=hcs1 4 (by simp)
 simp only[au] at n14
 clear hcs1
 go_wp2_with fail
 refine(jf _ _ _).mono ?_
 rintro e W2 ⟨hb,⟨hc,rfl⟩|⟨hc,rfl⟩⟩
 rotate_left
 ·simp at hc
  have q0:=jQ.o
  simp only[jh,bW,bY,dD]
  (repeat (first|rw[aF (by omega)]|rw[ak (by omega)]))
  exact⟨rfl,(aY HB1.o hb).mono gI,.inr ⟨by simp,rfl⟩⟩
 simp at hc
 have HB2:=ae (aY HB1.o hb)
 have HS2:=ae hb
 have rD:=ae hc
 clear hb hc c1 f1 wL n10 n11 n12 n13 n14
 obtain⟨c2,f2,l2⟩:=af ((HB2.o.block _ lw).trans HO.o.blk)
 obtain⟨xG,hcs2⟩:=HW.o W2 (HB2.o.mono gI)
 have n20:=hcs2 0 (by simp)
 simp only[au] at n20
 have n21:=hcs2 1 (by simp)
 simp only[au] at n21
 have n22:=hcs2 2 (by simp)
 simp only[au] at n22
 have n23:=hcs2 3 (by simp)
 simp only[au] at n23
 have n24:=hcs2 4 (by simp)
 simp only[au] at n24
 clear hcs2
 go_wp2_with fail
 refine zg 11 [] none [] ?_
 simp only[zt]
 repeat ((first|refine zd ?_|refine zk ?_);simp only[zp])
 intro W3 hE hF
 have HB3:=ae (aY HB2.o hE.below)
 clear hE hF c2 f2 xG n20 n21 n22 n23 n24
 obtain⟨c3,f3,l3⟩:=af ((HB3.o.block _ lw).trans HO.o.blk)
 obtain⟨J3,hcs3⟩:=HW.o W3 (HB3.o.mono gI)
 have n30:=hcs3 0 (by simp)
 simp only[au] at n30
 have n31:=hcs3 1 (by simp)
 simp only[au] at n31
 have n32:=hcs3 2 (by simp)
 simp only[au] at n32
 have n33:=hcs3 3 (by simp)
 simp only[au] at n33
 have n34:=hcs3 4 (by simp)
 simp only[au] at n34
 clear hcs3
 go_wp2_with fail
 clear hyz
 refine(jf _ _ _).mono ?_
 rintro e W4 ⟨hb,⟨hc,rfl⟩|⟨hc,rfl⟩⟩
 rotate_left
 ·simp at hc
  have q0:=jQ.o
  have q1:=rD.o
  simp only[jh,bW,bY,dD]
  (repeat (first|rw[aF (by omega)]|rw[ak (by omega)]))
  exact⟨rfl,(aY HB3.o hb).mono gI,.inr ⟨by simp,rfl⟩⟩
 simp at hc
 have HB4:=ae (aY HB3.o hb)
 have U8:=ae hb
 have yL:=ae hc
 clear hb hc c3 f3 J3 n30 n31 n32 n33 n34
 obtain⟨c4,f4,l4⟩:=af ((HB4.o.block _ lw).trans HO.o.blk)
 obtain⟨Qz,kC⟩:=HW.o W4 (HB4.o.mono gI)
 have n40:=kC 0 (by simp)
 simp only[au] at n40
 have n41:=kC 1 (by simp)
 simp only[au] at n41
 have n42:=kC 2 (by simp)
 simp only[au] at n42
 have n43:=kC 3 (by simp)
 simp only[au] at n43
 have n44:=kC 4 (by simp)
 simp only[au] at n44
 clear kC
 go_wp2_with fail
 refine zg 6 [] none [] ?_
 simp only[zt]
 repeat ((first|refine zd ?_|refine zk ?_);simp only[zp])
 intro W5 hE hF
 have nD:=ae (aY HB4.o hE.below)
 clear hE hF c4 f4 Qz n40 n41 n42 n43 n44
 obtain⟨c5,f5,l5⟩:=af ((nD.o.block _ lw).trans HO.o.blk)
 obtain⟨lb5,uC⟩:=HW.o W5 (nD.o.mono gI)
 have n50:=uC 0 (by simp)
 simp only[au] at n50
 have n51:=uC 1 (by simp)
 simp only[au] at n51
 have n52:=uC 2 (by simp)
 simp only[au] at n52
 have n53:=uC 3 (by simp)
 simp only[au] at n53
 have n54:=uC 4 (by simp)
 simp only[au] at n54
 clear uC
 go_wp2_with fail
 refine(dX 2 [decide (z<y)] W5 (by simp) _ (by simp[dK]) _ _ rfl).mono ?_
 rintro e W6 ⟨hb,⟨hc,rfl⟩|⟨hc,rfl⟩⟩
 rotate_left
 ·simp at hc
  have q0:=jQ.o
  have q1:=rD.o
  have q2:=yL.o
  simp only[jh,bW,bY,dD]
  (repeat (first|rw[aF (by omega)]|rw[ak (by omega)]))
  exact⟨rfl,(aY nD.o hb).mono gI,.inr ⟨by simp,rfl⟩⟩
 simp at hc
 have pY:=ae (aY nD.o hb)
 have HS6:=ae hb
 have IM:=ae hc
 clear hb hc c5 f5 lb5 n50 n51 n52 n53 n54
 obtain⟨c6,f6,l6⟩:=af ((pY.o.block _ lw).trans HO.o.blk)
 obtain⟨lb6,uA⟩:=HW.o W6 (pY.o.mono gI)
 have n60:=uA 0 (by simp)
 simp only[au] at n60
 have n61:=uA 1 (by simp)
 simp only[au] at n61
 have n62:=uA 2 (by simp)
 simp only[au] at n62
 have n63:=uA 3 (by simp)
 simp only[au] at n63
 have n64:=uA 4 (by simp)
 simp only[au] at n64
 clear uA
 go_wp2_with fail
 refine RX.gy (fun ps W'=> ¬(p<=q/\q<=s.led.field.rows)/\ps=kH 2/\Below N w W') 19 [] none [(16,⟨fun _ v=>v=rv (p,q),fun _ _ _=>(p<=q/\q<=s.led.field.rows)⟩),(18,Spec.block W6.heap.size #[iv 0,iv 0,iv 0,iv 0,iv 0] 186)] (by rintro ps a1 Wx hdf ⟨h1,rfl,h3⟩;refine⟨hdf,wF (c:=2) h3 ?_ (by decide)⟩;have q0:=jQ.o;have q1:=rD.o;have q2:=yL.o;have q3:=IM.o;simp only[jh,bW,bY,dD];(repeat (first|rw[aF (by omega)]|rw[ak (by omega)]))) (by as_aux_lemma=>kernel_rfl) (by as_aux_lemma=>kernel_rfl) ?_
 simp only[zt]
 repeat (refine RX.zd ?_;simp only[zp])
 refine RX.bG _ (by rfl) (by rfl) ⟨_,rfl⟩ (fun Wq hE2 hF2=>?_) (fun v Wa Wb ho hE=>ho) (fun v hv=>?_)
 ·have hE':Ext [] W6 Wq:=hE2
  refine RX.dE 242 #[.pointer (some ⟨wb,0,none⟩),iv p,iv q] (by go_simp;try rfl) ?_
  refine(uO p q wb s _ Wq ((hE'.block _ (fH lw pY.o.size) (by simp)).trans ((pY.o.block _ lw).trans HO.o.blk))).mono ?_
  rintro e w' ⟨hb,⟨hc,rfl⟩|⟨hc,rfl⟩⟩
  ·exact .inl ⟨_,rfl,rfl,hc,Ext.aA hb⟩
  ·exact .inr ⟨_,rfl,hc,rfl,(aY pY.o (aY hE'.below hb)).mono gI⟩
 obtain rfl:v=rv (p,q):=hv
 simp only[zp]
 repeat (refine RX.zd ?_;simp only[zp])
 refine RX.jV W6.heap.size _ _ (by rfl) (ai _) (by rfl) (by simp) (by simp) (fun W hW=>by go_simp;try rfl) (fun b9=>?_)
 simp only[zp]
 intro Wb hE hF
 obtain⟨b9',wP,hge,hk9⟩:=hF _ (bF _)
 cases wP
 have hc:p<=q/\q<=s.led.field.rows:=hF _ (nJ _ (bF _))
 have HBb:=ae (aY pY.o (show Ext [] W6 Wb from hE).below)
 have U9:=ae hc
 have qQ:=ae (ag (iW pY.o.size hge) hk9)
 obtain⟨c9,f9,l9⟩:=af hk9
 clear hE hF hc hge hk9 c6 f6 lb6 n60 n61 n62 n63 n64
 go_upto_region 5 with(fail)
 refine dN fun W7 qi=>?_
 have zU:=ae (show Below w.heap.size w W7 from by rw[qi];exact(((((HBb.o).setCell qQ.o.1 _).setCell qQ.o.1 _).setCell qQ.o.1 _).setCell qQ.o.1 _).setCell qQ.o.1 _)
 have D8:=ae (show W7.heap[b9]? =some (.cells #[iv x,iv y,iv z,iv p,iv q] 186 (0,0)) from by rw[qi];exact aI (aI (aI (aI (aI (qQ.o.2) _) _) _) _) _)
 have Zo:b9<W7.heap.size:=(aS.1 D8.o).1
 clear qi c9 f9 l9
 obtain⟨c7,f7,l7⟩:=af ((zU.o.block _ lw).trans HO.o.blk)
 obtain⟨lb7,uz⟩:=HW.o W7 (zU.o.mono gI)
 have n70:=uz 0 (by simp)
 simp only[au] at n70
 have n71:=uz 1 (by simp)
 simp only[au] at n71
 have n72:=uz 2 (by simp)
 simp only[au] at n72
 have n73:=uz 3 (by simp)
 simp only[au] at n73
 have n74:=uz 4 (by simp)
 simp only[au] at n74
 clear uz
 go_wp2_with fail
 refine(qI _ _ _).mono ?_
 rintro e W8 ⟨hb,⟨hc,rfl⟩|⟨hc,rfl⟩⟩
 rotate_left
 ·simp at hc
  have q0:=jQ.o
  have q1:=rD.o
  have q2:=yL.o
  have q3:=IM.o
  have q4:=U9.o
  simp only[jh,bW,bY,dD]
  (repeat (first|rw[aF (by omega)]|rw[ak (by omega)]))
  exact⟨rfl,(aY zU.o hb).mono gI,.inr ⟨by simp,rfl⟩⟩
 simp at hc
 have oV:=ae (aY zU.o hb)
 have HS8:=ae hb
 have HQ5:=ae hc
 clear hb hc c7 f7 lb7 n70 n71 n72 n73 n74
 obtain⟨c8,f8,l8⟩:=af ((oV.o.block _ lw).trans HO.o.blk)
 obtain⟨lb8,Dk⟩:=HW.o W8 (oV.o.mono gI)
 have n80:=Dk 0 (by simp)
 simp only[au] at n80
 have n81:=Dk 1 (by simp)
 simp only[au] at n81
 have n82:=Dk 2 (by simp)
 simp only[au] at n82
 have n83:=Dk 3 (by simp)
 simp only[au] at n83
 have n84:=Dk 4 (by simp)
 simp only[au] at n84
 clear Dk
 go_wp2_with fail
 obtain⟨Ms,hMs⟩: ∃Ms,Ms=(Value.slice o s.led.field.ax.length cc).ownBlock.toList:=⟨_,rfl⟩
 have Ha:=HO.o.below oV.o
 have hm1:wb∉Ms:=fun h=>Ha.rows.off 0 _ rfl (by rw[hMs] at h;exact dJ.1 h)
 have hm2:b∉Ms:=fun h=>by have:=((Ha.rows.own 0 _ rfl).lt b (by rw[hMs] at h;exact dJ.1 h)).1;omega
 have uu: ∀m∈Ms,m<W8.heap.size:=fun m h=>((Ha.rows.own 0 _ rfl).lt m (by rw[hMs] at h;exact dJ.1 h)).2
 obtain⟨c9,f9,l9⟩:=af ((HS8.o.block _ Zo).trans D8.o)
 have hm9:b9∉Ms:=fun h=>by have:=((HO.o.rows.own 0 _ rfl).lt b9 (by rw[hMs] at h;exact dJ.1 h)).2;have:=qQ.o.1;omega
 have HM:=ae hMs
 have jw:=ae Ha
 clear hMs Ha
 refine zg 8 Ms (some 7) [(6,Spec.slice W8.heap.size #[iv x,iv y,iv z,iv p,iv q] 186 1),(7,⟨fun _ v=> ∃o2 c2,v= .slice o2 (s.led.field.ax.length+1) c2,fun _ v Wx=>Wx.ownsRow N 186 5 v (s.led.field.ax.length+1) (dL s.led.field.ax++[iv x,iv y,iv z,iv p,iv q])/\(v.ownBlock=(Value.slice o s.led.field.ax.length cc).ownBlock∨ ∃q,v.ownBlock=some q/\W8.heap.size<=q)⟩)] ?_
 simp only[zt]
 repeat ((first|refine zd ?_|refine zk ?_);simp only[zp])
 refine dY W8.heap.size _ _ 1 (by rfl) (ai _) (by rfl) uu (by simp) (fun W hW=>by go_simp;try rfl) (fun b6=>?_)
 simp only[zp]
 repeat ((first|refine zd ?_|refine zk ?_);simp only[zp])
 refine bG _ (by rfl) (by rfl) (by exact⟨.slice none (s.led.field.ax.length+1) 0,none,0,rfl⟩) (fun W6 hE hF=>?_) (fun v Wa Wb ho hE=>?_) (fun v hv=>?_)
 ·have hE':Ext [] W8 W6:=hE
  obtain⟨b',hb',hge,hcc⟩:=hF _ (bF _) (by kernel_rfl)
  cases hb'
  have hown6:W6.ownsRow N 186 5 (.slice o s.led.field.ax.length cc) s.led.field.ax.length (dL s.led.field.ax):=aC (Ms:=[]) (jw.o.rows.own 0 _ rfl) hE' (by simp)
  have hsrc:aN 5 W6 (.slice (some ⟨b6,0,none⟩) 1 1) 1 ([iv x,iv y,iv z,iv p,iv q]):=aN.dB 5 1 hcc rfl (by decide)
  refine Does.mono (dM YO (by rfl) (by rfl) hown6 (by rfl) hsrc (Oi x y z p q) (by omega) (by omega) (by have:=hE'.size;have:=oV.o.size;omega)) ?_
  rintro v' W7 ⟨ho,hgr,hcase⟩
  refine⟨aT ho,⟨ho,?_⟩,⟨hgr.os,hgr.tape,hgr.output,hgr.size,fun b hb hn=>hgr.block b hb (fun e=>hn (by rw[HM.o];exact dJ.2 e.symm))⟩⟩
  rcases hcase with h1|h1
  ·exact .inl h1
  ·exact .inr ⟨_,h1,hE'.size⟩
 ·exact⟨aC (Ms:=[]) ho.1 hE (by simp),ho.2⟩
 obtain⟨o7,c7,rfl⟩:=hv
 simp only[zp]
 intro W9 hE hF
 obtain⟨qE,Ak⟩:=hF _ (bF _)
 have gY:Ext Ms W8 W9:=hE
 have hbl:=(gY.block wb jw.o.rows.lt hm1).trans jw.o.blk
 obtain⟨c9,f9,l9⟩:=af hbl
 have ja:=ae (ag gY (ag qE (ag Ak hbl)))
 have AU:Below N w W9:=(oV.o.mono gI).trans ⟨gY.os,gY.tape,gY.output,gY.size,fun k hk=>gY.block k (by have:=oV.o.size;omega) (fun h=>by have:=((jw.o.rows.own 0 _ rfl).lt k (by rw[HM.o] at h;exact dJ.1 h)).1;omega)⟩
 have oV:=ae AU
 clear hE hF gY qE Ak hbl AU hm1 hm2 uu c8 f8 lb8 n80 n81 n82 n83 n84
 go_wp2_with fail
 go_end0
 have q0:=jQ.o
 have q1:=rD.o
 have q2:=yL.o
 have q3:=IM.o
 have q4:=U9.o
 have q5:=HQ5.o
 simp only[jh,bW,bY,dD]
 (repeat (first|rw[aF (by omega)]|rw[ak (by omega)]))
 refine⟨oV.o.setCell wB _,.inl ⟨rfl,rfl,⟨.slice o7 (s.led.field.ax.length+1) c7,vn,vw,vu,vr,vh,vk,vs⟩,es,jw.o.put (i:=0) rfl ⟨186,5,.slice o7 (s.led.field.ax.length+1) c7,s.led.field.ax.length+1,dL s.led.field.ax++[iv x,iv y,iv z,iv p,iv q]⟩ ja.o.1 (fun m hm=>by rw[HM.o] at hm;exact dJ.1 hm) ja.o.2.1 ja.o.2.2.1 (aI ja.o.2.2.2 _) (by simp[iK,ny,dL]) (jw.o.es)⟩⟩
theorem yR (N:Nat) (w:World) (wb:Nat) (s:jO) (V:SV) (es:List KE) (ns:Value) (x y z p q:Int) (hO:jT N w wb s V es) (hn:rV N w ns [x,y,z,p,q]) (hG:fO s):
 Calls Tryz.prog 155 #[.pointer (some ⟨wb,0,none⟩),ns] w (rC N wb (jh s .tally [x,y,z,p,q]) w):=by
 by_cases h:y<z
 ·exact KW N w wb s V es ns x y z p q hO hn hG h
 ·exact KX N w wb s V es ns x y z p q hO hn hG (by omega)
theorem try_any (N:Nat) (w:World) (wb:Nat) (s:jO) (V:SV) (es:List KE) (ns:Value) (x y z:Int) (hO:jT N w wb s V es) (hn:rV N w ns [x,y,z]) (hG:fO s) (hx:(0<=x/\x<=9999)/\0<=y/\y<=9999):Calls Tryz.prog 172 #[.pointer (some ⟨wb,0,none⟩),ns] w (rC N wb (jh s .CP [x,y,z]) w):=by
 obtain⟨vt,vn,vw,vu,vr,vh,vk,vs⟩:=V
 obtain⟨ok,ck,rfl⟩: ∃o c,vk= .slice o es.length c:=aT (n:=es.length) (hO.rows.own 6 _ rfl)
 obtain⟨o,cc,rfl⟩: ∃o c,vs= .slice o s.dA.aJ.length c:=aT (n:=s.dA.aJ.length) (hO.rows.own 7 _ rfl)
 have HO:=ae hO
 have gI:=eH hO
 obtain⟨b,c,rfl,hbN,hcs⟩:=hn
 have lb:b<w.heap.size:=by omega
 have lw:=hO.rows.lt
 have wB:=hO.rows.base
 have HW:Hid (∀W,Below N w W->b<W.heap.size/\ ∀(j:Nat) (h:j<[x,y,z].length),W.cell? ⟨b,j,none⟩=some (iv [x,y,z][j])):=ae (fun W hB=>⟨by have:=hB.size;omega,fun j h=>(jd (hB.block b hbN)).trans (hcs j h)⟩)
 obtain⟨c0,f0,l0⟩:=af hO.blk
 have oU:=hcs 0 (by simp)
 simp only[au] at oU
 have n01:=hcs 1 (by simp)
 simp only[au] at n01
 have n02:=hcs 2 (by simp)
 simp only[au] at n02
 have HB0:Hid (Below w.heap.size w w):=ae (aH _ _)
 have LZ:=hG.aJ
 have hes:es.length=s.dA.aU.length:=by rw[<-hO.es];simp
 have jQ:=ae hes
 clear hes
 clear hO hcs hG
 go_enter Tryz.func172,Tryz.ntmps172
 go_wp2_with fail
 refine zg 8 [] none [] ?_
 simp only[zt]
 repeat ((first|refine zd ?_|refine zk ?_);simp only[zp])
 intro W1 hE hF
 have HB1:=ae (aY HB0.o hE.below)
 clear hE hF c0 f0 oU n01 n02
 obtain⟨c1,f1,l1⟩:=af ((HB1.o.block _ lw).trans HO.o.blk)
 obtain⟨wL,hcs1⟩:=HW.o W1 (HB1.o.mono gI)
 have n10:=hcs1 0 (by simp)
 simp only[au] at n10
 have n11:=hcs1 1 (by simp)
 simp only[au] at n11
 have n12:=hcs1 2 (by simp)
 simp only[au] at n12
 clear hcs1
 go_wp2_with fail
 refine(jf _ _ _).mono ?_
 rintro e W2 ⟨hb,⟨hc,rfl⟩|⟨hc,rfl⟩⟩
 rotate_left
 ·simp at hc
  have q0:=jQ.o
  simp only[jh,bW,bY,dD]
  (repeat (first|rw[aF (by omega)]|rw[ak (by omega)]))
  exact⟨rfl,(aY HB1.o hb).mono gI,.inr ⟨by simp,rfl⟩⟩
 simp at hc
 have HB2:=ae (aY HB1.o hb)
 have HS2:=ae hb
 have rD:=ae hc
 clear hb hc c1 f1 wL n10 n11 n12
 obtain⟨c2,f2,l2⟩:=af ((HB2.o.block _ lw).trans HO.o.blk)
 obtain⟨xG,hcs2⟩:=HW.o W2 (HB2.o.mono gI)
 have n20:=hcs2 0 (by simp)
 simp only[au] at n20
 have n21:=hcs2 1 (by simp)
 simp only[au] at n21
 have n22:=hcs2 2 (by simp)
 simp only[au] at n22
 clear hcs2
 go_wp2_with fail
 refine RX.gy (fun ps W'=> ¬(y<=z/\z<=100/\z<=y+100)/\ps=kH 2/\Below N w W') 8 [] none [(6,⟨fun _ v=>v=rv (y,z),fun _ _ _=>(y<=z/\z<=100/\z<=y+100)⟩),(7,Spec.block W2.heap.size #[iv 0,iv 0] 129)] (by rintro ps a1 Wx hdf ⟨h1,rfl,h3⟩;refine⟨hdf,wF (c:=2) h3 ?_ (by decide)⟩;have q0:=jQ.o;have q1:=rD.o;simp only[jh,bW,bY,dD];(repeat (first|rw[aF (by omega)]|rw[ak (by omega)]))) (by as_aux_lemma=>kernel_rfl) (by as_aux_lemma=>kernel_rfl) ?_
 simp only[zt]
 repeat (refine RX.zd ?_;simp only[zp])
 refine RX.bG _ (by rfl) (by rfl) ⟨_,rfl⟩ (fun Wq hE2 hF2=>?_) (fun v Wa Wb ho hE=>ho) (fun v hv=>?_)
 ·have hE':Ext [] W2 Wq:=hE2
  refine RX.dE 252 #[iv y,iv z,iv 100] (by go_simp;try rfl) ?_
  refine(wC y z 100 Wq (by omega)).mono ?_
  rintro e w' ⟨hb,⟨hc,rfl⟩|⟨hc,rfl⟩⟩
  ·exact .inl ⟨_,rfl,rfl,hc,Ext.aA hb⟩
  ·exact .inr ⟨_,rfl,hc,rfl,(aY HB2.o (aY hE'.below hb)).mono gI⟩
 obtain rfl:v=rv (y,z):=hv
 simp only[zp]
 repeat (refine RX.zd ?_;simp only[zp])
 refine RX.jV W2.heap.size _ _ (by rfl) (ai _) (by rfl) (by simp) (by simp) (fun W hW=>by go_simp;try rfl) (fun b9=>?_)
 simp only[zp]
 intro Wb hE hF
 obtain⟨b9',wP,hge,hk9⟩:=hF _ (bF _)
 cases wP
 have hc:y<=z/\z<=100/\z<=y+100:=hF _ (nJ _ (bF _))
 have HBb:=ae (aY HB2.o (show Ext [] W2 Wb from hE).below)
 have yL:=ae hc
 have qQ:=ae (ag (iW HB2.o.size hge) hk9)
 obtain⟨c9,f9,l9⟩:=af hk9
 clear hE hF hc hge hk9 c2 f2 xG n20 n21 n22
 go_upto_region 3 with(fail)
 refine dN fun W3 qi=>?_
 have HB3:=ae (show Below w.heap.size w W3 from by rw[qi];exact((HBb.o).setCell qQ.o.1 _).setCell qQ.o.1 _)
 have D8:=ae (show W3.heap[b9]? =some (.cells #[iv y,iv z] 129 (0,0)) from by rw[qi];exact aI (aI (qQ.o.2) _) _)
 have Zo:b9<W3.heap.size:=(aS.1 D8.o).1
 clear qi c9 f9 l9
 obtain⟨c3,f3,l3⟩:=af ((HB3.o.block _ lw).trans HO.o.blk)
 obtain⟨J3,hcs3⟩:=HW.o W3 (HB3.o.mono gI)
 have n30:=hcs3 0 (by simp)
 simp only[au] at n30
 have n31:=hcs3 1 (by simp)
 simp only[au] at n31
 have n32:=hcs3 2 (by simp)
 simp only[au] at n32
 clear hcs3
 go_wp2_with fail
 refine(qI _ _ _).mono ?_
 rintro e W4 ⟨hb,⟨hc,rfl⟩|⟨hc,rfl⟩⟩
 rotate_left
 ·simp at hc
  have q0:=jQ.o
  have q1:=rD.o
  have q2:=yL.o
  simp only[jh,bW,bY,dD]
  (repeat (first|rw[aF (by omega)]|rw[ak (by omega)]))
  exact⟨rfl,(aY HB3.o hb).mono gI,.inr ⟨by simp,rfl⟩⟩
 simp at hc
 have HB4:=ae (aY HB3.o hb)
 have U8:=ae hb
 have IM:=ae hc
 clear hb hc c3 f3 J3 n30 n31 n32
 obtain⟨c4,f4,l4⟩:=af ((HB4.o.block _ lw).trans HO.o.blk)
 obtain⟨Qz,kC⟩:=HW.o W4 (HB4.o.mono gI)
 have n40:=kC 0 (by simp)
 simp only[au] at n40
 have n41:=kC 1 (by simp)
 simp only[au] at n41
 have n42:=kC 2 (by simp)
 simp only[au] at n42
 clear kC
 go_wp2_with fail
 obtain⟨Ms,hMs⟩: ∃Ms,Ms=(Value.slice o s.dA.aJ.length cc).ownBlock.toList:=⟨_,rfl⟩
 have hO4:=HO.o.below HB4.o
 have hm1:wb∉Ms:=fun h=>hO4.rows.off 7 _ rfl (by rw[hMs] at h;exact dJ.1 h)
 have hm2:b∉Ms:=fun h=>by have:=((hO4.rows.own 7 _ rfl).lt b (by rw[hMs] at h;exact dJ.1 h)).1;omega
 have uu: ∀m∈Ms,m<W4.heap.size:=fun m h=>((hO4.rows.own 7 _ rfl).lt m (by rw[hMs] at h;exact dJ.1 h)).2
 obtain⟨c9,f9,l9⟩:=af ((U8.o.block _ Zo).trans D8.o)
 have hm9:b9∉Ms:=fun h=>by have:=((HO.o.rows.own 7 _ rfl).lt b9 (by rw[hMs] at h;exact dJ.1 h)).2;have:=qQ.o.1;omega
 have HM:=ae hMs
 have jw:=ae hO4
 clear hMs hO4
 refine zg 12 Ms (some 11) [(10,Spec.slice W4.heap.size #[.bool true,iv x,iv y,iv z] 192 1),(11,⟨fun _ v=> ∃o2 c2,v= .slice o2 (s.dA.aJ.length+1) c2,fun _ v Wx=>Wx.ownsRow N 192 4 v (s.dA.aJ.length+1) (gK s.dA.aJ++[.bool true,iv x,iv y,iv z])/\(v.ownBlock=(Value.slice o s.dA.aJ.length cc).ownBlock∨ ∃q,v.ownBlock=some q/\W4.heap.size<=q)⟩)] ?_
 simp only[zt]
 repeat ((first|refine zd ?_|refine zk ?_);simp only[zp])
 refine dY W4.heap.size _ _ 1 (by rfl) (ai _) (by rfl) uu (by simp) (fun W hW=>by go_simp;try rfl) (fun b6=>?_)
 simp only[zp]
 repeat ((first|refine zd ?_|refine zk ?_);simp only[zp])
 refine bG _ (by rfl) (by rfl) (by exact⟨.slice none (s.dA.aJ.length+1) 0,none,0,rfl⟩) (fun W6 hE hF=>?_) (fun v Wa Wb ho hE=>?_) (fun v hv=>?_)
 ·have hE':Ext [] W4 W6:=hE
  obtain⟨b',hb',hge,hcc⟩:=hF _ (bF _) (by kernel_rfl)
  cases hb'
  have hown6:W6.ownsRow N 192 4 (.slice o s.dA.aJ.length cc) s.dA.aJ.length (gK s.dA.aJ):=aC (Ms:=[]) (jw.o.rows.own 7 _ rfl) hE' (by simp)
  have hsrc:aN 4 W6 (.slice (some ⟨b6,0,none⟩) 1 1) 1 ([.bool true,iv x,iv y,iv z]):=aN.dB 4 1 hcc rfl (by decide)
  refine Does.mono (dM abD (by rfl) (by rfl) hown6 (by rfl) hsrc (abP x y z) (by omega) (by omega) (by have:=hE'.size;have:=HB4.o.size;omega)) ?_
  rintro v' W7 ⟨ho,hgr,hcase⟩
  refine⟨aT ho,⟨ho,?_⟩,⟨hgr.os,hgr.tape,hgr.output,hgr.size,fun b hb hn=>hgr.block b hb (fun e=>hn (by rw[HM.o];exact dJ.2 e.symm))⟩⟩
  rcases hcase with h1|h1
  ·exact .inl h1
  ·exact .inr ⟨_,h1,hE'.size⟩
 ·exact⟨aC (Ms:=[]) ho.1 hE (by simp),ho.2⟩
 obtain⟨o7,c7,rfl⟩:=hv
 simp only[zp]
 intro W5 hE hF
 obtain⟨qE,Ak⟩:=hF _ (bF _)
 have gY:Ext Ms W4 W5:=hE
 have hbl:=(gY.block wb jw.o.rows.lt hm1).trans jw.o.blk
 obtain⟨c5,f5,l5⟩:=af hbl
 have ja:=ae (ag gY (ag qE (ag Ak hbl)))
 have AU:Below N w W5:=(HB4.o.mono gI).trans ⟨gY.os,gY.tape,gY.output,gY.size,fun k hk=>gY.block k (by have:=HB4.o.size;omega) (fun h=>by have:=((jw.o.rows.own 7 _ rfl).lt k (by rw[HM.o] at h;exact dJ.1 h)).1;omega)⟩
 have oV:=ae AU
 clear hE hF gY qE Ak hbl AU hm1 hm2 uu c4 f4 Qz n40 n41 n42
 go_wp2_with fail
 go_end0
 have q0:=jQ.o
 have q1:=rD.o
 have q2:=yL.o
 have q3:=IM.o
 simp only[jh,bW,bY,dD]
 (repeat (first|rw[aF (by omega)]|rw[ak (by omega)]))
 refine⟨oV.o.setCell wB _,.inl ⟨rfl,rfl,⟨vt,vn,vw,vu,vr,vh,.slice ok (es.length) ck,.slice o7 (s.dA.aJ.length+1) c7⟩,es,jw.o.put (i:=7) rfl ⟨192,4,.slice o7 (s.dA.aJ.length+1) c7,s.dA.aJ.length+1,gK s.dA.aJ++[.bool true,iv x,iv y,iv z]⟩ ja.o.1 (fun m hm=>by rw[HM.o] at hm;exact dJ.1 hm) ja.o.2.1 ja.o.2.2.1 (aI ja.o.2.2.2 _) (by simp[iK,fK,gK]) (jw.o.es)⟩⟩
end Go.Proofs.YthllkbbbapgelaaGreatDoor.Bk
end
section
namespace Go.Proofs.YthllkbbbapgelaaGreatDoor.Bk
open jy
def jY (n:Nat):Nat->az
 |0=>[]
 |m+1=>jY (n/10) m++[zH (n%10)]
theorem iU (m:Nat): ∀n,(jY n m).length=m:=by
 induction m with
 |zero=>intro n;rfl
 |succ m ih=>intro n;simp[jY,ih]
theorem acy {a b:Nat} (ha:a<10) (hb:b<10) (h:zH a=zH b):a=b:=by
 have:=congrArg UInt8.toNat h
 rw[lN ha,lN hb] at this
 omega
theorem Ph: ∀(m a b:Nat),a<10^m->b<10^m->jY a m=jY b m->a=b:=by
 intro m
 induction m with
 |zero=>intro a b ha hb _;simp at ha hb;omega
 |succ m ih=>
  intro a b ha hb h
  rw[Nat.pow_succ] at ha hb
  obtain⟨h1,h2⟩:=List.append_inj h (by rw[iU,iU])
  have h3:=ih _ _ (by omega) (by omega) h1
  have h4:=acy (by omega) (by omega) (List.cons.inj h2).1
  omega
def iy:Nat->az->Nat
 |_,[]=>0
 |k,c::l=>k*c.toNat+iy (k+1) l
def iE (i:Nat) (line:az):Nat:=(29*(i+1)+iy 2 line)%9949
theorem zo (i:Nat) (line:az):iE i line<10^4:=by
 have:=Nat.mod_lt (29*(i+1)+iy 2 line) (show 9949>0 by omega)
 unfold iE
 omega
theorem PK (i:Nat) (line:az):iE (i+1) line≠iE i line:=by unfold iE;omega
def bP (i:Nat) (line:az):az:=jY line.length 2++(58::(line++(58::(jY (iE i line) 4++[10]))))
theorem iT (i:Nat) (line:az):(bP i line).length=9+line.length:=by simp[bP,iU];omega
def eQ (i:Nat):List az->az
 |[]=>[]
 |l::ls=>bP i l++eQ (i+1) ls
def uM (ls:List az):az:=eQ 0 ls
theorem zQ: ∀(ls:List az) (i:Nat) (l:az),eQ i (ls++[l])=eQ i ls++bP (i+ls.length) l:=by
 intro ls
 induction ls with
 |nil=>intro i l;simp[eQ]
 |cons x ls ih=>intro i l;simp only[List.cons_append,eQ,ih,jg,List.length_cons];rw[show i+1+ls.length=i+(ls.length+1) from by omega]
def tJ (i:Nat) (b:az) (n:Nat):Bool:=decide (9+n<=b.length)&&(bP i ((b.drop 3).take n)==b.take (9+n))
def mi (i:Nat) (b:az):Option az:=((List.range 61).find? (tJ i b)).map fun n=>(b.drop 3).take n
def cu:Nat->Nat->az->List az
 |0,_,_=>[]
 |f+1,i,b=>match mi i b with
  |none=>[]
  |some l=>l::cu f (i+1) (b.drop (9+l.length))
def iD:List az->Nat
 |[]=>0
 |l::ls=>9+l.length+iD ls
theorem yY {i n:Nat} {b:az}:tJ i b n=true↔ ∃l rest,l.length=n/\b=bP i l++rest:=by
 unfold tJ
 rw[eG,eX,beq_iff_eq]
 constructor
 ·rintro⟨h1,h2⟩
  refine⟨(b.drop 3).take n,b.drop (9+n),by simp;omega,?_⟩
  rw[h2,List.take_append_drop]
 ·rintro⟨l,rest,rfl,rfl⟩
  have hd:((bP i l++rest).drop 3).take l.length=l:=by
   have:bP i l++rest=(jY l.length 2++[58])++(l++(58::(jY (iE i l) 4++[10])++rest)):=by simp[bP]
   rw[this,List.drop_append_of_le_length (by simp[iU]),List.drop_of_length_le (by simp[iU]),List.nil_append,nK (ai _),List.take_length]
  refine⟨by rw[dm,iT];omega,?_⟩
  rw[hd,nK (by rw[iT];omega),kF (by rw[iT];omega)]
theorem Uz {i j:Nat} {l m r s:az} (hl:l.length<=60) (hm:m.length<=60) (h:bP i l++r=bP j m++s):l.length=m.length:=by
 unfold bP at h
 rw[jg,jg] at h
 exact Ph 2 _ _ (by omega) (by omega) (List.append_inj h (by rw[iU,iU])).1
theorem Jq {i:Nat} {l:az} (hl:l.length<=60) (rest:az):mi i (bP i l++rest)=some l:=by
 unfold mi
 have h1:(List.range 61).find? (tJ i (bP i l++rest))=some l.length:=by
  rw[List.find?_range_eq_some]
  refine⟨yY.2 ⟨l,rest,rfl,rfl⟩,kD.2 (by omega),fun n hn=>?_⟩
  rw[Bool.not_eq_true', <-Bool.not_eq_true]
  intro hc
  obtain⟨m,s,hm,he⟩:=yY.1 hc
  have:=Uz hl (by omega) he
  omega
 rw[h1]
 have:=(yY (i:=i) (n:=l.length)).2 ⟨l,rest,rfl,rfl⟩
 unfold tJ at this
 rw[eG,beq_iff_eq] at this
 rw[Option.map_some]
 congr 1
 have h2:bP i l++rest=(jY l.length 2++[58])++(l++(58::(jY (iE i l) 4++[10])++rest)):=by simp[bP]
 rw[h2,List.drop_append_of_le_length (by simp[iU]),List.drop_of_length_le (by simp[iU]),List.nil_append,nK (ai _),List.take_length]
theorem zW {i:Nat} {b l:az} (h:mi i b=some l):l.length<=60/\ ∃rest,b=bP i l++rest:=by
 unfold mi at h
 cases hf:(List.range 61).find? (tJ i b) with
 |none=>rw[hf] at h;cases h
 |some n=>
  rw[hf] at h
  obtain rfl:=jD h
  obtain⟨h1,h2,_⟩:=List.find?_range_eq_some.1 hf
  obtain⟨l,rest,rfl,rfl⟩:=yY.1 h1
  have h3:bP i l++rest=(jY l.length 2++[58])++(l++(58::(jY (iE i l) 4++[10])++rest)):=by simp[bP]
  have h4:((bP i l++rest).drop 3).take l.length=l:=by
   rw[h3,List.drop_append_of_le_length (by simp[iU]),List.drop_of_length_le (by simp[iU]),List.nil_append,nK (ai _),List.take_length]
  show((bP i l++rest).drop 3 |>.take l.length).length<=60/\ ∃adR,bP i l++rest=bP i ((bP i l++rest).drop 3 |>.take l.length)++adR
  rw[h4]
  exact⟨by have:=kD.1 h2;omega,rest,rfl⟩
theorem Ny {i:Nat} {b:az} (h: ∀l rest,l.length<=60->b≠bP i l++rest):mi i b=none:=by
 cases hw:mi i b with
 |none=>rfl
 |some l=>obtain⟨h1,r,h2⟩:=zW hw;exact absurd h2 (h l r h1)
theorem xW: ∀(f i:Nat) (b:az),(cu f i b).length<=f:=by
 intro f
 induction f with
 |zero=>intro i b;exact ai _
 |succ f ih=>
  intro i b
  unfold cu
  split
  ·simp
  ·rename_i l _
   have:=ih (i+1) (b.drop (9+l.length))
   simp only[List.length_cons];omega
theorem read_short: ∀(f i:Nat) (b:az), ∀l∈cu f i b,l.length<=60:=by
 intro f
 induction f with
 |zero=>intro i b l hl;cases hl
 |succ f ih=>
  intro i b l hl
  unfold cu at hl
  split at hl
  ·cases hl
  ·rename_i x hx
   rcases gZ.1 hl with rfl|hl
   ·exact(zW hx).1
   ·exact ih _ _ l hl
theorem Vy: ∀(f i:Nat) (b:az),iD (cu f i b)<=b.length:=by
 intro f
 induction f with
 |zero=>intro i b;exact bQ _
 |succ f ih=>
  intro i b
  unfold cu
  split
  ·simp[iD]
  ·rename_i l hl
   obtain⟨_,r,rfl⟩:=zW hl
   have h1:(bP i l++r).drop (9+l.length)=r:=by rw[List.drop_append_of_le_length (by rw[iT];omega),List.drop_of_length_le (by rw[iT];omega),List.nil_append]
   rw[h1]
   have:=ih (i+1) r
   simp only[iD,dm,iT]
   omega
theorem kJ: ∀(ls:List az) (i:Nat),(eQ i ls).length=iD ls:=by
 intro ls
 induction ls with
 |nil=>intro i;rfl
 |cons l ls ih=>intro i;simp[eQ,iD,iT,ih]
theorem CU (a b:List az):iD (a++b)=iD a+iD b:=by
 induction a with
 |nil=>simp[iD]
 |cons x a ih=>simp only[List.cons_append,iD,ih];omega
theorem VF {a:List az} (ha: ∀l∈a,l.length<=60) {l:az} (hl:l.length<=60) (i f:Nat) (hf:a.length<=f) (rest:az):
 cu f i (eQ i a++(bP (i+a.length+1) l++rest))=a:=by
 induction a generalizing i f with
 |nil=>
  cases f with
  |zero=>rfl
  |succ f=>
   have:mi i (eQ i []++(bP (i+0+1) l++rest))=none:=Ny fun x r hx h=>by
    simp only[eQ,List.nil_append,Nat.add_zero] at h
    have h1:=Uz hl hx h
    unfold bP at h
    rw[h1] at h
    rw[jg,jg] at h
    have h2:=(List.append_inj h rfl).2
    simp only[List.cons_append,List.cons.injEq,true_and] at h2
    rw[jg,jg] at h2
    obtain⟨rfl,h3⟩:=List.append_inj h2 h1
    simp only[List.cons_append,List.cons.injEq,true_and] at h3
    rw[jg,jg] at h3
    have h4:=(List.append_inj h3 (by rw[iU,iU])).1
    exact PK i l (Ph 4 _ _ (zo _ _) (zo _ _) h4)
   show cu (f+1) i _=[]
   unfold cu
   rw[List.length_nil,this]
 |cons x a ih=>
  obtain⟨f,rfl⟩: ∃g,f=g+1:=⟨f-1,by simp at hf;omega⟩
  have hx:=ha x (by simp)
  rw[eQ,jg]
  unfold cu
  rw[Jq hx]
  simp only
  rw[List.drop_append_of_le_length (by rw[iT];omega),List.drop_of_length_le (by rw[iT];omega),List.nil_append]
  rw[show i+(x::a).length+1=(i+1)+a.length+1 from by simp;omega]
  rw[ih (fun y hy=>ha y (by simp[hy])) (i+1) f (by simpa using hf)]
def qC (b:az):Option Nat:=
 if jZ (b.getD 0 0)&&jZ (b.getD 1 0) then some (10*((b.getD 0 0).toNat-48)+((b.getD 1 0).toNat-48)) else none
def FX (i n:Nat) (b:az):Bool:=
 (b.getD 2 0==58&&b.getD (3+n) 0==58)&&(b.getD (8+n) 0==10&&((b.drop (4+n)).take 4==jY (iE i ((b.drop 3).take n)) 4))
def oZ (i:Nat) (b:az):Option az:=
 if b.length<9 then none else match qC b with
  |none=>none
  |some n=>if 60<n∨b.length<9+n then none else if FX i n b then some ((b.drop 3).take n) else none
theorem Pg {n:Nat} (h:n<100):jY n 2=[zH (n/10),zH (n%10)]:=by
 have:n/10%10=n/10:=by omega
 simp[jY,this]
theorem RJ {i:Nat} {l:az} (hl:l.length<=60) (rest:az):qC (bP i l++rest)=some l.length:=by
 unfold qC bP
 rw[Pg (by omega)]
 simp only[List.cons_append,List.nil_append,jg,dD]
 rw[Dw (by omega),Dw (by omega),lN (by omega),lN (by omega)]
 simp only[Bool.and_self,if_true]
 congr 1
 omega
theorem Y0 (i:Nat) (l rest:az):bP i l++rest=(jY l.length 2++[58])++(l++(58::(jY (iE i l) 4++(10::rest)))):=by simp[bP]
theorem YN {i:Nat} {l:az} (rest:az):((bP i l++rest).drop 3).take l.length=l/\FX i l.length (bP i l++rest)=true:=by
 have h3:(jY l.length 2++[58]).length=3:=by simp[iU]
 have hd: ∀k,(bP i l++rest).drop (3+k)=(l++(58::(jY (iE i l) 4++(10::rest)))).drop k:=fun k=>by
  rw[Y0,List.drop_append,List.drop_of_length_le (by omega),List.nil_append,h3]
  congr 1
  omega
 have hd0:=hd 0
 rw[Nat.add_zero,List.drop_zero] at hd0
 have e1:((bP i l++rest).drop 3).take l.length=l:=by rw[hd0,nK (ai _),List.take_length]
 have hda: ∀k,(bP i l++rest).drop (3+l.length+k)=(58::(jY (iE i l) 4++(10::rest))).drop k:=fun k=>by
  rw[show 3+l.length+k=3+(l.length+k) from by omega,hd,List.drop_append,List.drop_of_length_le (by omega),List.nil_append]
  congr 1
  omega
 have g: ∀k,(bP i l++rest).getD (3+l.length+k) 0=(58::(jY (iE i l) 4++(10::rest))).getD k 0:=fun k=>by
  have:=congrArg (fun x:az=>x.getD 0 0) (hda k)
  simpa [gV,List.getElem?_drop] using this
 have g0:=g 0
 have g5:=g 5
 have d1:=hda 1
 have l4:(jY (iE i l) 4).length=4:=iU 4 _
 refine⟨e1,?_⟩
 unfold FX
 rw[e1]
 rw[show 8+l.length=3+l.length+5 from by omega,show 4+l.length=3+l.length+1 from by omega,g5,d1]
 rw[Nat.add_zero] at g0
 rw[g0]
 have g2:(bP i l++rest).getD 2 0=58:=by
  unfold bP
  generalize hq:jY l.length 2=q
  have hq2:q.length=2:=by rw[<-hq];exact iU 2 _
  obtain⟨a,b,rfl⟩: ∃a b,q=[a,b]:=by
   match q,hq2 with
   |[a,b],_=>exact⟨a,b,rfl⟩
  simp
 rw[g2]
 generalize hq:jY (iE i l) 4=q at*
 obtain⟨a,b,c,d,rfl⟩: ∃a b c d,q=[a,b,c,d]:=by
  match q,l4 with
  |[a,b,c,d],_=>exact⟨a,b,c,d,rfl⟩
 simp
theorem QI {i:Nat} {l:az} (hl:l.length<=60) (rest:az):oZ i (bP i l++rest)=some l:=by
 have hlen:(bP i l++rest).length=9+l.length+rest.length:=by rw[dm,iT]
 unfold oZ
 rw[ak (by omega),RJ hl]
 obtain⟨h1,h2⟩:=YN (i:=i) (l:=l) rest
 simp only
 rw[ak (by omega),h2,h1]
 rfl
theorem getD_eq {b:az} {k:Nat} (h:k<b.length):b.getD k 0=b[k]:=by rw[gV,dw h,Option.getD_some]
theorem Nz {i:Nat} {b l:az} (h:oZ i b=some l):l.length<=60/\ ∃rest,b=bP i l++rest:=by
 unfold oZ at h
 split at h
 ·cases h
 rename_i h9
 split at h
 ·cases h
 rename_i n hn
 split at h
 ·cases h
 rename_i hb
 split at h
 ·rename_i ht
  obtain rfl:=jD h
  have hll:((b.drop 3).take n).length=n:=by simp;omega
  refine⟨by omega,b.drop (9+n),?_⟩
  unfold qC at hn
  split at hn
  ·rename_i hd
   rw[eG] at hd
   obtain⟨x,hx,ex⟩:=MH hd.1
   obtain⟨y,hy,ey⟩:=MH hd.2
   have hn':=jD hn
   rw[ex,ey,lN hx,lN hy] at hn'
   simp only[FX,eG,beq_iff_eq] at ht
   obtain⟨⟨t1,t2⟩,t3,t4⟩:=ht
   unfold bP
   rw[hll,Pg (by omega),show n/10=x from by omega,show n%10=y from by omega, <-ex, <-ey, <-t4]
   have e0:b=b.take 3++((b.drop 3).take n++b.drop (3+n)):=by
    have h1:(b.drop 3).drop n=b.drop (3+n):=by rw[List.drop_drop]
    rw[<-h1,List.take_append_drop,List.take_append_drop]
   have e1:b.take 3=[b.getD 0 0,b.getD 1 0,58]:=by
    rw[<-t1]
    match b,h9 with
    |x::y::z::b,_=>rfl
    |[x,y],h=>simp at h
    |[x],h=>simp at h
    |[],h=>simp at h
   have e2:b.drop (3+n)=58::((b.drop (4+n)).take 4++(10::b.drop (9+n))):=by
    have q1:b.drop (3+n)=b.getD (3+n) 0::b.drop (4+n):=by
     rw[uj (show 3+n<b.length by omega),getD_eq (show 3+n<b.length by omega)]
     congr 2
     omega
    have q2:b.drop (8+n)=b.getD (8+n) 0::b.drop (9+n):=by
     rw[uj (show 8+n<b.length by omega),getD_eq (show 8+n<b.length by omega)]
     congr 2
     omega
    have q3:(b.drop (4+n)).drop 4=b.drop (8+n):=by rw[List.drop_drop];congr 1;omega
    rw[q1,t2, <-t3, <-q2, <-q3,List.take_append_drop]
   rw[jg]
   have:b=b.take 3++((b.drop 3).take n++(58::((b.drop (4+n)).take 4++(10::b.drop (9+n))))):=by rw[<-e2];exact e0
   rw[e1] at this
   simpa using this
  ·cases hn
 ·cases h
theorem Jr (i:Nat) (b:az):oZ i b=mi i b:=by
 cases h:oZ i b with
 |some l=>
  obtain⟨h1,rest,rfl⟩:=Nz h
  rw[Jq h1]
 |none=>
  refine(Ny fun l rest hl he=>?_).symm
  rw[he,QI hl] at h
  cases h
end Go.Proofs.YthllkbbbapgelaaGreatDoor.Bk
end

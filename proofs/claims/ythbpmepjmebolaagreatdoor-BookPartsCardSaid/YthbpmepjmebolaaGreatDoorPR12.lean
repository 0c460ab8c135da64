/-
  Texts of this claim, packed by a program: YA YB YC YE YF DA DB DC DD DE DF DG YD YI OG.
-/
import Derived.WalkKit
import Derived.WalkLawsBesides
import Derived.WalkSpells
import Derived.Outline
import Derived.Handy
import Derived.KernelRfl
import Derived.Lib.Hide
import Derived.Lib.AtoiTie
import Derived.Lib.ItoaNum
import Derived.StringKeys
import Derived.Lib.SlicesS
import Derived.BigRegion
import Derived.Deep.Slices
import Derived.Carry
import Derived.Test.YthbpmepjmebolaaGreatDoorPR8
import Derived.Test.YthbpmepjmebolaaGreatDoorPR11
set_option maxHeartbeats 8000000
set_option maxRecDepth 100000
set_option linter.all false
section
namespace Go.Proofs.YthbpmepjmebolaaGreatDoor.Bk
open jv Go.Proofs.YthbpmepjmebolaaGreatDoor.zS
abbrev aH:=List UInt8
def dB:aH->List aH
 |[]=>[[]]
 |c::l=>if c=32 then[]::dB l else(c::(dB l).headD [])::(dB l).tail
theorem kU: ∀l,dB l≠[]:=by
 intro l
 cases l with
 |nil=>simp[dB]
 |cons c l=>unfold dB;split <;>simp
def iL (c:UInt8):Bool:=decide (48<=c.toNat)&&decide (c.toNat<=57)
def qf (s:aH):Int:=s.foldl (fun n c=>10*n+((c.toNat:Int)-48)) 0
def zY (s:aH):Bool:=decide (1<=s.length)&&decide (s.length<=4)&&(decide (s.headD 0≠48) ||decide (s.length=1))&&s.all iL
def lu (s:aH):Option Int:=if zY s=true then some (qf s) else none
theorem LC: ∀(s:aH) (n:Int),0<=n->s.all iL=true->n*10^s.length<=s.foldl (fun n c=>10*n+((c.toNat:Int)-48)) n/\s.foldl (fun n c=>10*n+((c.toNat:Int)-48)) n<(n+1)*10^s.length:=by
 intro s
 induction s with
 |nil=>intro n h _;simp;omega
 |cons c s ih=>
  intro n h hs
  rw[List.all_cons,fH] at hs
  have hd:=hs.1
  simp only[iL,fH,fB] at hd
  have hp:0<(10:Int)^s.length:=Int.pow_pos (by omega)
  have:=ih (10*n+((c.toNat:Int)-48)) (by omega) hs.2
  rw[List.foldl_cons,List.length_cons,Int.pow_succ]
  have e1:n*(10^s.length*10)=(10*n)*10^s.length:=by rw[Int.mul_comm (10^s.length) 10, <-Int.mul_assoc,Int.mul_comm n 10]
  have e2:(n+1)*(10^s.length*10)=(10*(n+1))*10^s.length:=by rw[Int.mul_comm (10^s.length) 10, <-Int.mul_assoc,Int.mul_comm (n+1) 10]
  rw[e1,e2]
  have h1:(10*n)*10^s.length<=(10*n+((c.toNat:Int)-48))*10^s.length:=Int.mul_le_mul_of_nonneg_right (by omega) (by omega)
  have h2:(10*n+((c.toNat:Int)-48)+1)*10^s.length<=(10*(n+1))*10^s.length:=Int.mul_le_mul_of_nonneg_right (by omega) (by omega)
  omega
theorem Md {s:aH} {n:Int} (h:lu s=some n):0<=n/\n<=9999:=by
 unfold lu at h
 split at h
 ·rename_i hf
  obtain rfl:=jG h
  simp only[zY,fH,fB] at hf
  have h1:=LC s 0 (by omega) hf.2
  have h2:(10:Int)^s.length<=10000:=by
   have h3:=hf.1.1.1
   have h4:=hf.1.1.2
   clear h1 hf
   generalize s.length=k at*
   rcases(show k=1∨k=2∨k=3∨k=4 by omega) with rfl|rfl|rfl|rfl <;>decide
  unfold qf
  omega
 ·cases h
inductive kz where
 |row|left|tally|Aa|lI|rate|box|note|void|start|bU|turn|oJ|Au|unread|heap|strong|qg|fill|Bl|uQ
 deriving DecidableEq
def NI:List kz:=[.row,.left,.tally,.Aa,.lI,.rate,.box,.note,.void,.start,.bU,.turn,.oJ,.Au,.unread,.heap,.strong,.qg,.fill,.Bl,.uQ]
def kz.word:kz->aH
 | .row=>[114,111,119]
 | .left=>[108,101,102,116]
 | .tally=>[116,97,108,108,121]
 | .Aa=>[119,97,115,104]
 | .lI=>[117,110,116,97,108,108,121]
 | .rate=>[114,97,116,101]
 | .box=>[98,111,120]
 | .note=>[110,111,116,101]
 | .void=>[118,111,105,100]
 | .start=>[115,116,97,114,116]
 | .bU=>[119,101,116]
 | .turn=>[116,117,114,110]
 | .oJ=>[117,110,116,117,114,110]
 | .Au=>[105,114,111,110]
 | .unread=>[117,110,114,101,97,100]
 | .heap=>[104,101,97,112]
 | .strong=>[115,116,114,111,110,103]
 | .qg=>[99,97,115,107]
 | .fill=>[102,105,108,108]
 | .Bl=>[116,114,121]
 | .uQ=>[117,110,116,114,121]
def kz.many:kz->Nat
 | .row=>0
 | .lI| .rate| .void| .turn| .oJ| .unread| .uQ=>1
 | .left| .box| .start| .heap| .qg=>2
 | .Aa| .note| .bU| .Au| .strong| .fill| .Bl=>3
 | .tally=>5
def tZ (w:aH):Option kz:=NI.find? fun c=>c.word==w
theorem Uo (c:kz):tZ c.word=some c:=by cases c <;>decide
theorem Io {w:aH} {c:kz} (h:tZ w=some c):w=c.word:=by
 have:=List.find?_some h
 exact(beq_iff_eq.1 this).symm
theorem fO {w:aH} (h:tZ w=none) (c:kz):w≠c.word:=by
 intro e
 rw[e,Uo] at h
 cases h
def lU:List aH->Option (List Int)
 |[]=>some []
 |p::ps=>(lu p).bind fun n=>(lU ps).map (n:: ·)
theorem J8: ∀{ps:List aH} {n:List Int},lU ps=some n->n.length=ps.length:=by
 intro ps
 induction ps with
 |nil=>intro n h;obtain rfl:=jG h;rfl
 |cons p ps ih=>
  intro n h
  unfold lU at h
  cases hp:lu p with
  |none=>rw[hp] at h;cases h
  |some x=>
   cases hq:lU ps with
   |none=>rw[hp,hq] at h;cases h
   |some y=>
    rw[hp,hq] at h
    obtain rfl:=jG h
    simp[ih hq]
theorem ZO: ∀{ps:List aH} {n:List Int},lU ps=some n-> ∀x∈n,0<=x/\x<=9999:=by
 intro ps
 induction ps with
 |nil=>intro n h x hx;obtain rfl:=jG h;cases hx
 |cons p ps ih=>
  intro n h x hx
  unfold lU at h
  cases hp:lu p with
  |none=>rw[hp] at h;cases h
  |some y=>
   cases hq:lU ps with
   |none=>rw[hp,hq] at h;cases h
   |some z=>
    rw[hp,hq] at h
    obtain rfl:=jG h
    rcases gY.1 hx with rfl|hx
    ·exact Md hp
    ·exact ih hq x hx
def qh (line:aH):Option (kz×List Int):=
 (tZ ((dB line).headD [])).bind fun c=>if(dB line).tail.length=c.many then(lU (dB line).tail).map fun n=>(c,n) else none
theorem qm {line:aH} {c:kz} {n:List Int} (h:qh line=some (c,n)):(dB line).headD []=c.word/\n.length=c.many/\(∀x∈n,0<=x/\x<=9999)/\lU (dB line).tail=some n:=by
 unfold qh at h
 cases hc:tZ ((dB line).headD []) with
 |none=>rw[hc] at h;cases h
 |some d=>
  rw[hc,Option.bind_some] at h
  split at h
  ·rename_i hl
   cases hn:lU (dB line).tail with
   |none=>rw[hn] at h;cases h
   |some m=>
    rw[hn] at h
    obtain⟨rfl,rfl⟩:=Prod.mk.inj (jG h)
    exact⟨Io hc,by rw[J8 hn,hl],ZO hn,rfl⟩
  ·cases h
structure jr where
 led:aQ
 heap:dh
 dn:bP
def dA:jr:=
 {led:={field:={rows:=3,aO:=2,left:=(0,3),az:=[]},rate:=10,box:=(0,2000),notes:=[]}
  heap:={last:=4,size:=10,bn:=50,die:=10,uK:=60,start:=(30,30),bU:=List.replicate 5 (6,6),turns:=[],readings:=[]}
  dn:={heaps:=[(40,40)],aT:=[],aK:=[]}}
def LW (a b most:Int):Bool:=decide (a<=b)&&decide (b<=most)
def MF (a b most wide:Int):Bool:=decide (a<=b)&&decide (b<=most)&&decide (b<=a+wide)
def jl (last:Int) (p:Int->Bool):List Int:=((List.range (last+1).toNat).map fun(k:Nat)=>(k:Int)).filter p
def mJ (s:jr) (l:List NK):jr:={s with led:={s.led with field:={s.led.field with az:=l}}}
def nH (s:jr) (l:List (Int×dY)):jr:={s with led:={s.led with notes:=l}}
def iK (s:jr) (h:dh):jr:={s with heap:=h}
def fP (s:jr) (c:bP):jr:={s with dn:=c}
def iW (s:jr):kz->List Int->Int×jr
 | .row,_=>if 5<=s.led.field.rows then(3,s) else(0,{s with led:={s.led with field:={s.led.field with rows:=s.led.field.rows+1}}})
 | .left,n=>if LW (n.getD 0 0) (n.getD 1 0) s.led.field.rows=false then(2,s)
    else(0,{s with led:={s.led with field:={s.led.field with left:=(n.getD 0 0,n.getD 1 0)}}})
 | .tally,n=>if s.led.field.aO<=n.getD 0 0 then(7,s) else if s.led.field.rows<=n.getD 1 0∨s.led.field.rows<=n.getD 2 0 then(7,s)
    else if n.getD 2 0<n.getD 1 0 then(2,s) else if LW (n.getD 3 0) (n.getD 4 0) s.led.field.rows=false then(2,s)
    else if 5<=s.led.field.az.length then(3,s)
    else(0,mJ s (s.led.field.az++[(n.getD 0 0,n.getD 1 0,n.getD 2 0,(n.getD 3 0,n.getD 4 0))]))
 | .Aa,n=>if(s.led.field.az.length:Int)<=n.getD 0 0 then(7,s) else if LW (n.getD 1 0) (n.getD 2 0) s.led.field.rows=false then(2,s)
    else(0,mJ s (s.led.field.az.set (n.getD 0 0).toNat
     (let t:=s.led.field.az.getD (n.getD 0 0).toNat (0,0,0,(0,0));(t.1,t.2.1,t.2.2.1,(n.getD 1 0,n.getD 2 0)))))
 | .lI,n=>if(s.led.field.az.length:Int)<=n.getD 0 0 then(7,s) else(0,mJ s (s.led.field.az.eraseIdx (n.getD 0 0).toNat))
 | .rate,n=>if n.getD 0 0=0∨50<n.getD 0 0 then(2,s) else(0,{s with led:={s.led with rate:=n.getD 0 0}})
 | .box,n=>if LW (n.getD 0 0) (n.getD 1 0) 2000=false then(2,s) else(0,{s with led:={s.led with box:=(n.getD 0 0,n.getD 1 0)}})
 | .note,n=>if s.led.field.aO<=n.getD 0 0 then(7,s) else if LW (n.getD 1 0) (n.getD 2 0) 2000=false then(2,s)
    else if 5<=s.led.notes.length then(3,s) else(0,nH s (s.led.notes++[(n.getD 0 0,(n.getD 1 0,n.getD 2 0))]))
 | .void,n=>if(s.led.notes.length:Int)<=n.getD 0 0 then(7,s) else(0,nH s (s.led.notes.eraseIdx (n.getD 0 0).toNat))
 | .start,n=>if MF (n.getD 0 0) (n.getD 1 0) 500 2=false then(2,s) else(0,iK s {s.heap with start:=(n.getD 0 0,n.getD 1 0)})
 | .bU,n=>if s.heap.last<n.getD 0 0 then(7,s) else if MF (n.getD 1 0) (n.getD 2 0) 20 2=false then(2,s)
    else(0,iK s {s.heap with bU:=s.heap.bU.set (n.getD 0 0).toNat (n.getD 1 0,n.getD 2 0)})
 | .turn,n=>if s.heap.last<n.getD 0 0 then(7,s) else if s.heap.turns.contains (n.getD 0 0) then(6,s)
    else(0,iK s {s.heap with turns:=jl s.heap.last fun i=>i==n.getD 0 0 ||s.heap.turns.contains i})
 | .oJ,n=>if s.heap.turns.contains (n.getD 0 0)=false then(7,s)
    else(0,iK s {s.heap with turns:=jl s.heap.last fun i=>i !=n.getD 0 0&&s.heap.turns.contains i})
 | .Au,n=>if s.heap.last<n.getD 0 0 then(7,s) else if 1000<n.getD 1 0∨50<n.getD 2 0 then(2,s)
    else if 5<=s.heap.readings.length then(3,s) else(0,iK s {s.heap with readings:=s.heap.readings++[(n.getD 0 0,n.getD 1 0,n.getD 2 0)]})
 | .unread,n=>if(s.heap.readings.length:Int)<=n.getD 0 0 then(7,s) else(0,iK s {s.heap with readings:=s.heap.readings.eraseIdx (n.getD 0 0).toNat})
 | .heap,n=>if MF (n.getD 0 0) (n.getD 1 0) 100 9=false then(2,s) else if 3<=s.dn.heaps.length then(3,s)
    else(0,fP s {s.dn with heaps:=s.dn.heaps++[(n.getD 0 0,n.getD 1 0)],aT:=s.dn.aT.map (· ++[0])})
 | .strong,n=>if(s.dn.heaps.length:Int)<=n.getD 0 0 then(7,s) else if MF (n.getD 1 0) (n.getD 2 0) 100 9=false then(2,s)
    else(0,fP s {s.dn with heaps:=s.dn.heaps.set (n.getD 0 0).toNat (n.getD 1 0,n.getD 2 0)})
 | .qg,n=>if(s.dn.heaps.length:Int)<=n.getD 0 0 then(7,s) else if n.getD 1 0=0∨30<n.getD 1 0 then(2,s)
    else if 3<=s.dn.aT.length then(3,s)
    else(0,fP s {s.dn with aT:=s.dn.aT++[(List.replicate s.dn.heaps.length 0).set (n.getD 0 0).toNat (n.getD 1 0)]})
 | .fill,n=>if(s.dn.aT.length:Int)<=n.getD 0 0 then(7,s) else if(s.dn.heaps.length:Int)<=n.getD 1 0 then(7,s) else if 30<n.getD 2 0 then(2,s)
    else if((s.dn.aT.getD (n.getD 0 0).toNat []).set (n.getD 1 0).toNat (n.getD 2 0)).any (fun x=>decide (0<x))=false then(8,s)
    else(0,fP s {s.dn with aT:=s.dn.aT.set (n.getD 0 0).toNat ((s.dn.aT.getD (n.getD 0 0).toNat []).set (n.getD 1 0).toNat (n.getD 2 0))})
 | .Bl,n=>if(s.dn.aT.length:Int)<=n.getD 0 0 then(7,s) else if MF (n.getD 1 0) (n.getD 2 0) 100 100=false then(2,s)
    else if 5<=s.dn.aK.length then(3,s) else(0,fP s {s.dn with aK:=s.dn.aK++[(true,n.getD 0 0,(n.getD 1 0,n.getD 2 0))]})
 | .uQ,n=>if(s.dn.aK.length:Int)<=n.getD 0 0 then(7,s) else(0,fP s {s.dn with aK:=s.dn.aK.eraseIdx (n.getD 0 0).toNat})
structure gU (s:jr):Prop where
 rows:3<=s.led.field.rows/\s.led.field.rows<=5
 aO:s.led.field.aO=2
 left:0<=s.led.field.left.1/\s.led.field.left.1<=s.led.field.left.2/\s.led.field.left.2<=s.led.field.rows
 FI:s.led.field.az.length<=5
 uB: ∀t∈s.led.field.az,(0<=t.1/\t.1<2)/\(0<=t.2.1/\t.2.1<=t.2.2.1/\t.2.2.1<s.led.field.rows)/\(0<=t.2.2.2.1/\t.2.2.2.1<=t.2.2.2.2/\t.2.2.2.2<=s.led.field.rows)
 rate:1<=s.led.rate/\s.led.rate<=50
 box:0<=s.led.box.1/\s.led.box.1<=s.led.box.2/\s.led.box.2<=2000
 notes:s.led.notes.length<=5
 note: ∀t∈s.led.notes,(0<=t.1/\t.1<2)/\(0<=t.2.1/\t.2.1<=t.2.2/\t.2.2<=2000)
 heap:s.heap.last=4/\s.heap.size=10/\s.heap.bn=50/\s.heap.die=10/\s.heap.uK=60
 start:0<=s.heap.start.1/\s.heap.start.1<=s.heap.start.2/\s.heap.start.2<=500/\s.heap.start.2<=s.heap.start.1+2
 V8:s.heap.bU.length=5
 bU: ∀r∈s.heap.bU,0<=r.1/\r.1<=r.2/\r.2<=20/\r.2<=r.1+2
 turns: ∃p,s.heap.turns=jl 4 p
 reads:s.heap.readings.length<=5
 read: ∀x∈s.heap.readings,(0<=x.1/\x.1<=4)/\(0<=x.2.1/\x.2.1<=1000)/\(0<=x.2.2/\x.2.2<=50)
 UC:1<=s.dn.heaps.length/\s.dn.heaps.length<=3
 dn: ∀r∈s.dn.heaps,0<=r.1/\r.1<=r.2/\r.2<=100/\r.2<=r.1+9
 aT:s.dn.aT.length<=3
 qg: ∀l∈s.dn.aT,l.length=s.dn.heaps.length/\(∀x∈l,0<=x/\x<=30)/\0<mQ l
 aK:s.dn.aK.length<=5
 trial: ∀t∈s.dn.aK,t.1=true/\(0<=t.2.1/\t.2.1<s.dn.aT.length)/\(0<=t.2.2.1/\t.2.2.1<=t.2.2.2/\t.2.2.2<=100)
theorem IB:gU dA where
 rows:=by decide
 aO:=rfl
 left:=by decide
 FI:=by decide
 uB:=fun _ h=>by cases h
 rate:=by decide
 box:=by decide
 notes:=by decide
 note:=fun _ h=>by cases h
 heap:=by decide
 start:=by decide
 V8:=rfl
 bU:=fun r h=>by obtain rfl:=List.eq_of_mem_replicate h;decide
 turns:=⟨fun _=>false,by decide⟩
 reads:=by decide
 read:=fun _ h=>by cases h
 UC:=by decide
 dn:=fun r h=>by obtain rfl:=fK.1 h;decide
 aT:=by decide
 qg:=fun _ h=>by cases h
 aK:=by decide
 trial:=fun _ h=>by cases h
theorem FZ {n:List Int} (h: ∀x∈n,0<=x/\x<=9999) (i:Nat):0<=n.getD i 0/\n.getD i 0<=9999:=by
 by_cases hi:i<n.length
 ·rw[iH,dP hi,Option.getD_some];exact h _ (cZ hi)
 ·rw[iH,List.getElem?_eq_none (by omega)];exact⟨by decide,by decide⟩
theorem vY {α:Type} {l:List α} {i:Nat} {x y:α} (h:y∈l.set i x):y=x∨y∈l:=by
 rcases List.mem_or_eq_of_mem_set h with h|h
 ·exact .inr h
 ·exact .inl h
theorem ab6 {l:List Int} (h: ∀x∈l,0<=x/\x<=30):0<=mQ l:=(FU (by omega) h).1
theorem Oj {l:List Int} (h: ∀x∈l,0<=x/\x<=30):0<mQ l↔l.any (fun x=>decide (0<x))=true:=by
 induction l with
 |nil=>simp[mQ]
 |cons x l ih=>
  have h1:=h x (by simp)
  have h2:=ab6 (l:=l) (fun y hy=>h y (by simp[hy]))
  have h3:=ih (fun y hy=>h y (by simp[hy]))
  rw[List.any_cons,Bool.or_eq_true, <-h3,fB]
  simp only[mQ]
  omega
theorem RQ (l:List Int):mQ (l++[0])=mQ l:=by rw[Ol];simp[mQ]
theorem yl {a b m:Int}:LW a b m=true↔a<=b/\b<=m:=by simp[LW]
theorem yA {a b m w:Int}:MF a b m w=true↔a<=b/\b<=m/\b<=a+w:=by simp[MF,and_assoc]
theorem mem_erase {α:Type} {l:List α} {i:Nat} {x:α} (h:x∈l.eraseIdx i):x∈l:=List.mem_of_mem_eraseIdx h
theorem zC {α:Type} (l:List α) (i:Nat):(l.eraseIdx i).length<=l.length:=List.length_eraseIdx_le l i
theorem abp {s:jr} (hG:gU s) (c:kz) {n:List Int} (hn: ∀x∈n,0<=x/\x<=9999) (h0:(iW s c n).1=0):gU (iW s c n).2:=by
 have n0:=FZ hn 0
 have n1:=FZ hn 1
 have n2:=FZ hn 2
 have n3:=FZ hn 3
 cases c <;>simp only[iW] at h0⊢
 case row=>
  split at h0 <;>first|omega|skip
  rename_i h1
  rw[ak h1]
  have:=hG.rows;have:=hG.left
  exact {hG with rows:=by simp only;omega,left:=by simp only;omega,uB:=fun t ht=>by have:=hG.uB t ht;simp only at*;omega}
 case left=>
  split at h0 <;>first|omega|skip
  rename_i h1
  rw[ak h1]
  rw[Bool.not_eq_false,yl] at h1
  exact {hG with left:=by simp only;omega}
 case tally=>
  repeat' (split at h0;· omega)
  rename_i h1 h2 h3 h4 h5
  rw[ak h1,ak h2,ak h3,ak h4,ak h5]
  rw[Bool.not_eq_false,yl] at h4
  have hw:=hG.aO
  refine {hG with FI:=by simp[mJ];omega,uB:=fun t ht=>?_}
  rcases iT.1 ht with ht|ht
  ·exact hG.uB t ht
  ·obtain rfl:=fK.1 ht
   simp only[mJ];omega
 case Aa=>
  repeat' (split at h0;· omega)
  rename_i h1 h2
  rw[ak h1,ak h2]
  rw[Bool.not_eq_false,yl] at h2
  refine {hG with FI:=by simp[mJ];exact hG.FI,uB:=fun t ht=>?_}
  rcases vY ht with rfl|ht
  ·have hk:(n.getD 0 0).toNat<s.led.field.az.length:=by omega
   have:=hG.uB _ (cZ hk)
   rw[iH (l:=s.led.field.az),dP hk,Option.getD_some]
   simp only[mJ];omega
  ·exact hG.uB t ht
 case lI=>
  repeat' (split at h0;· omega)
  rename_i h1
  rw[ak h1]
  exact {hG with FI:=ji (zC _ _) hG.FI,uB:=fun t ht=>hG.uB t (mem_erase ht)}
 case rate=>
  repeat' (split at h0;· omega)
  rename_i h1
  rw[ak h1]
  exact {hG with rate:=by simp only;omega}
 case box=>
  repeat' (split at h0;· omega)
  rename_i h1
  rw[ak h1]
  rw[Bool.not_eq_false,yl] at h1
  exact {hG with box:=by simp only;omega}
 case note=>
  repeat' (split at h0;· omega)
  rename_i h1 h2 h3
  rw[ak h1,ak h2,ak h3]
  rw[Bool.not_eq_false,yl] at h2
  have hw:=hG.aO
  refine {hG with notes:=by simp[nH];omega,note:=fun t ht=>?_}
  rcases iT.1 ht with ht|ht
  ·exact hG.note t ht
  ·obtain rfl:=fK.1 ht
   simp only;omega
 case void=>
  repeat' (split at h0;· omega)
  rename_i h1
  rw[ak h1]
  exact {hG with notes:=ji (zC _ _) hG.notes,note:=fun t ht=>hG.note t (mem_erase ht)}
 case start=>
  repeat' (split at h0;· omega)
  rename_i h1
  rw[ak h1]
  rw[Bool.not_eq_false,yA] at h1
  exact {hG with start:=by simp only[iK];omega}
 case bU=>
  repeat' (split at h0;· omega)
  rename_i h1 h2
  rw[ak h1,ak h2]
  rw[Bool.not_eq_false,yA] at h2
  refine {hG with V8:=by simp[iK];exact hG.V8,bU:=fun r hr=>?_}
  rcases vY hr with rfl|hr
  ·simp only;omega
  ·exact hG.bU r hr
 case turn=>
  repeat' (split at h0;· omega)
  rename_i h1 h2
  rw[ak h1,ak h2]
  exact {hG with turns:=⟨_,by simp only[iK,hG.heap.1];rfl⟩}
 case oJ=>
  repeat' (split at h0;· omega)
  rename_i h1
  rw[ak h1]
  exact {hG with turns:=⟨_,by simp only[iK,hG.heap.1];rfl⟩}
 case Au=>
  repeat' (split at h0;· omega)
  rename_i h1 h2 h3
  rw[ak h1,ak h2,ak h3]
  have hl:=hG.heap.1
  refine {hG with reads:=by simp[iK];omega,read:=fun t ht=>?_}
  rcases iT.1 ht with ht|ht
  ·exact hG.read t ht
  ·obtain rfl:=fK.1 ht
   simp only;omega
 case unread=>
  repeat' (split at h0;· omega)
  rename_i h1
  rw[ak h1]
  exact {hG with reads:=ji (zC _ _) hG.reads,read:=fun t ht=>hG.read t (mem_erase ht)}
 case heap=>
  repeat' (split at h0;· omega)
  rename_i h1 h2
  rw[ak h1,ak h2]
  rw[Bool.not_eq_false,yA] at h1
  refine {hG with UC:=by simp[fP];omega,dn:=fun r hr=>?_,aT:=by simp[fP];exact hG.aT,qg:=fun l hl=>?_,trial:=fun t ht=>?_}
  ·rcases iT.1 hr with hr|hr
   ·exact hG.dn r hr
   ·obtain rfl:=fK.1 hr
    simp only;omega
  ·obtain⟨m,hm,rfl⟩:=jd.1 hl
   have:=hG.qg m hm
   refine⟨by simp[fP,this.1],fun x hx=>?_,by rw[RQ];exact this.2.2⟩
   rcases iT.1 hx with hx|hx
   ·exact this.2.1 x hx
   ·obtain rfl:=fK.1 hx;decide
  ·have:=hG.trial t ht
   simp only[fP,mF]
   exact this
 case strong=>
  repeat' (split at h0;· omega)
  rename_i h1 h2
  rw[ak h1,ak h2]
  rw[Bool.not_eq_false,yA] at h2
  refine {hG with UC:=by simp[fP];exact hG.UC,dn:=fun r hr=>?_,qg:=fun l hl=>by simp[fP];exact hG.qg l hl}
  rcases vY hr with rfl|hr
  ·simp only;omega
  ·exact hG.dn r hr
 case qg=>
  repeat' (split at h0;· omega)
  rename_i h1 h2 h3
  rw[ak h1,ak h2,ak h3]
  have hk:(n.getD 0 0).toNat<s.dn.heaps.length:=by omega
  have hx: ∀x∈(List.replicate s.dn.heaps.length (0:Int)).set (n.getD 0 0).toNat (n.getD 1 0),0<=x/\x<=30:=fun x hx=>by
   rcases vY hx with rfl|hx
   ·omega
   ·obtain rfl:=List.eq_of_mem_replicate hx;decide
  refine {hG with aT:=by simp[fP];omega,qg:=fun l hl=>?_,trial:=fun t ht=>?_}
  ·rcases iT.1 hl with hl|hl
   ·exact hG.qg l hl
   ·obtain rfl:=fK.1 hl
    refine⟨by simp[fP],hx,(Oj hx).2 ?_⟩
    rw[List.any_eq_true]
    exact⟨n.getD 1 0,List.mem_iff_getElem.2 ⟨(n.getD 0 0).toNat,by simpa using hk,List.getElem_set_self _⟩,decide_eq_true (by omega)⟩
  ·have:=hG.trial t ht
   simp only[fP,dD,List.length_singleton]
   exact⟨this.1,by omega,this.2.2⟩
 case fill=>
  repeat' (split at h0;· omega)
  rename_i h1 h2 h3 h4
  rw[ak h1,ak h2,ak h3,ak h4]
  have hk:(n.getD 0 0).toNat<s.dn.aT.length:=by omega
  have hb:=hG.qg _ (cZ hk)
  rw[iH (l:=s.dn.aT),dP hk,Option.getD_some] at h4⊢
  have hx: ∀x∈s.dn.aT[(n.getD 0 0).toNat].set (n.getD 1 0).toNat (n.getD 2 0),0<=x/\x<=30:=fun x hx=>by
   rcases vY hx with rfl|hx
   ·omega
   ·exact hb.2.1 x hx
  refine {hG with aT:=by simp[fP];exact hG.aT,qg:=fun l hl=>?_,trial:=fun t ht=>?_}
  ·rcases vY hl with rfl|hl
   ·exact⟨by rw[qC];exact hb.1,hx,(Oj hx).2 (by simpa using h4)⟩
   ·exact hG.qg l hl
  ·have:=hG.trial t ht
   simp only[fP,qC]
   exact this
 case Bl=>
  repeat' (split at h0;· omega)
  rename_i h1 h2 h3
  rw[ak h1,ak h2,ak h3]
  rw[Bool.not_eq_false,yA] at h2
  refine {hG with aK:=by simp[fP];omega,trial:=fun t ht=>?_}
  rcases iT.1 ht with ht|ht
  ·exact hG.trial t ht
  ·obtain rfl:=fK.1 ht
   exact⟨rfl,by simp only[fP];omega,by simp only;omega⟩
 case uQ=>
  repeat' (split at h0;· omega)
  rename_i h1
  rw[ak h1]
  exact {hG with aK:=ji (zC _ _) hG.aK,trial:=fun t ht=>hG.trial t (mem_erase ht)}
end Go.Proofs.YthbpmepjmebolaaGreatDoor.Bk
end
section
namespace Go.Proofs.YthbpmepjmebolaaGreatDoor.Bk
open jv Go.Lib
abbrev KT (k:Nat):UInt8:=UInt8.ofNat (48+k)
theorem uU {k:Nat} (h:k<10):(KT k).toNat=48+k:=by simp[KT];omega
theorem XW {k:Nat} (h:k<10):iL (KT k)=true:=by
 simp only[iL,uU h,fH,fB];omega
theorem afa {k:Nat} (h:k<10) (h1:1<=k):KT k≠48:=fun e=>by
 have:=congrArg UInt8.toNat e
 rw[uU h] at this
 have h2:(48:UInt8).toNat=48:=by decide
 omega
theorem aaV {c:UInt8} (h:iL c=true): ∃k,k<10/\c=KT k:=by
 simp only[iL,fH,fB] at h
 refine⟨c.toNat-48,by omega,?_⟩
 apply UInt8.toNat_inj.1
 rw[uU (by omega)]
 omega
theorem ny {u:Nat} (h:u<10):decDigits u=[KT u]:=by rw[decDigits,dif_pos h]
theorem yS {u:Nat} (h: ¬u<10):decDigits u=decDigits (u/10)++[KT (u%10)]:=by rw[decDigits,dif_neg h]
theorem aa5: ∀u, ∀c∈decDigits u, ∃k,k<10/\c=KT k:=by
 intro u
 induction u using Nat.strongRecOn with
 |_ u ih=>
  intro c hc
  by_cases h:u<10
  ·rw[ny h] at hc
   obtain rfl:=fK.1 hc
   exact⟨u,h,rfl⟩
  ·rw[yS h] at hc
   rcases iT.1 hc with hc|hc
   ·exact ih _ (by omega) c hc
   ·obtain rfl:=fK.1 hc
    exact⟨u%10,by omega,rfl⟩
theorem aa4 (u:Nat):1<=(decDigits u).length:=by
 by_cases h:u<10
 ·rw[ny h];exact ai _
 ·rw[yS h];simp
theorem zh (s:aH) (c:UInt8):qf (s++[c])=10*qf s+((c.toNat:Int)-48):=by unfold qf;rw[List.foldl_append];rfl
theorem abT (u:Nat):qf (decDigits u)=u:=by
 induction u using Nat.strongRecOn with
 |_ u ih=>
  by_cases h:u<10
  ·rw[ny h]
   show 10*(0:Int)+(((KT u).toNat:Int)-48)=u
   rw[uU h];omega
  ·rw[yS h,zh,ih _ (by omega),uU (by omega)]
   omega
theorem Uk: ∀(k u:Nat),u<10^(k+1)->(decDigits u).length<=k+1:=by
 intro k
 induction k with
 |zero=>intro u h;rw[ny (by omega)];exact ai _
 |succ k ih=>
  intro u h
  by_cases hu:u<10
  ·rw[ny hu];simp
  ·rw[yS hu,dD]
   have:=ih (u/10) (by rw[Nat.pow_succ] at h;omega)
   simp only[List.length_singleton]
   omega
theorem aie (u:Nat):u<10^(decDigits u).length:=by
 induction u using Nat.strongRecOn with
 |_ u ih=>
  by_cases h:u<10
  ·rw[ny h];simpa using h
  ·rw[yS h,dD,List.length_singleton,Nat.pow_succ]
   have:=ih (u/10) (by omega)
   omega
theorem acW {u:Nat} (h1:1<=u):(decDigits u).headD 0≠48:=by
 induction u using Nat.strongRecOn with
 |_ u ih=>
  by_cases h:u<10
  ·rw[ny h];exact afa h h1
  ·rw[yS h]
   have h2:=ih (u/10) (by omega) (by omega)
   have h3:=aa4 (u/10)
   cases hd:decDigits (u/10) with
   |nil=>rw[hd] at h3;simp at h3
   |cons a l=>rw[hd] at h2;exact h2
theorem ach {u:Nat} (h:u<10000):lu (decDigits u)=some (u:Int):=by
 have h1:=aa4 u
 have h2:=Uk 3 u (by simpa using h)
 have h3:(decDigits u).all iL=true:=by
  rw[jR]
  intro c hc
  obtain⟨k,hk,rfl⟩:=aa5 u c hc
  exact XW hk
 unfold lu
 rw[aF,abT]
 unfold zY
 rw[h3,decide_eq_true h1,decide_eq_true h2]
 by_cases hu:u=0
 ·subst hu;rw[ny (by omega)];decide
 ·rw[decide_eq_true (acW (u:=u) (by omega))];rfl
theorem acV: ∀(k:Nat) (s:aH),s.length=k+1->s.all iL=true->(s.headD 0≠48∨s.length=1)->decDigits (qf s).toNat=s:=by
 intro k
 induction k with
 |zero=>
  intro s hl hd _
  obtain⟨c,rfl⟩:=List.length_eq_one_iff.1 hl
  have hc:iL c=true:=by simpa using hd
  obtain⟨j,hj,rfl⟩:=aaV hc
  show decDigits (10*(0:Int)+(((KT j).toNat:Int)-48)).toNat=_
  rw[uU hj,show(10*(0:Int)+(((48+j:Nat):Int)-48)).toNat=j from by omega,ny hj]
 |succ k ih=>
  intro s hl hd hh
  obtain⟨t,c,rfl⟩: ∃t c,s=t++[c]:=by
   rcases List.eq_nil_or_concat s with rfl|⟨t,c,rfl⟩
   ·simp at hl
   ·exact⟨t,c,by simp⟩
  have hl':t.length=k+1:=by simpa using hl
  rw[List.all_append,fH] at hd
  have hc:iL c=true:=by simpa using hd.2
  obtain⟨j,hj,rfl⟩:=aaV hc
  have hne:t.headD 0≠48:=by
   rcases hh with hh|hh
   ·cases t with
    |nil=>simp at hl'
    |cons a t=>exact hh
   ·rw[hl] at hh;omega
  have h1:=ih t hl' hd.1 (.inl hne)
  have hb:=LC t 0 (by omega) hd.1
  have hpos:1<=qf t:=by
   have hnn:0<=qf t:=by unfold qf;omega
   by_cases hz:qf t=0
   ·rw[hz] at h1
    have h48:decDigits (0:Int).toNat=[48]:=by rw[show(0:Int).toNat=0 from rfl,ny (by omega)];rfl
    rw[h48] at h1
    rw[<-h1] at hne
    exact absurd rfl hne
   ·omega
  rw[zh,uU hj,yS (by omega)]
  rw[show(10*qf t+(((48+j:Nat):Int)-48)).toNat/10=(qf t).toNat from by omega,show(10*qf t+(((48+j:Nat):Int)-48)).toNat%10=j from by omega,h1]
theorem FV {s:aH} {v:Int} (h:lu s=some v):s=decDigits v.toNat/\s.length<=4:=by
 unfold lu at h
 split at h
 ·rename_i hf
  obtain rfl:=jG h
  simp only[zY,fH,Bool.or_eq_true,fB] at hf
  obtain⟨⟨⟨h1,h2⟩,h3⟩,h4⟩:=hf
  exact⟨(acV (s.length-1) s (by omega) h4 h3).symm,h2⟩
 ·cases h
theorem Qh {c:UInt8} (h:iL c=true):digitVal c=some (c.toNat-48):=by
 simp only[iL,fH,fB] at h
 unfold digitVal
 rw[aF h]
theorem Uj: ∀(s:aH) (acc:Nat),s.all iL=true-> ∃m:Nat,decFrom acc s=some m/\(m:Int)=s.foldl (fun n c=>10*n+((c.toNat:Int)-48)) (acc:Int):=by
 intro s
 induction s with
 |nil=>intro acc _;exact⟨acc,rfl,rfl⟩
 |cons c s ih=>
  intro acc h
  rw[List.all_cons,fH] at h
  obtain⟨m,h1,h2⟩:=ih (acc*10+(c.toNat-48)) h.2
  have hd:=h.1
  simp only[iL,fH,fB] at hd
  refine⟨m,by rw[decFrom,Qh h.1];exact h1,?_⟩
  rw[h2,List.foldl_cons]
  congr 1
  omega
theorem Fj {s:aH} {v:Int} (h:lu s=some v):atoi s=some v:=by
 unfold lu at h
 split at h
 ·rename_i hf
  obtain rfl:=jG h
  simp only[zY,fH,Bool.or_eq_true,fB] at hf
  obtain⟨⟨⟨h1,h2⟩,h3⟩,h4⟩:=hf
  cases s with
  |nil=>simp at h1
  |cons c s=>
   have hd:=h4
   rw[List.all_cons,fH] at hd
   have hc:=hd.1
   simp only[iL,fH,fB] at hc
   have n45:(c==45)=false:=by
    rw[jH];rintro rfl;revert hc;decide
   have n43:(c==43)=false:=by
    rw[jH];rintro rfl;revert hc;decide
   obtain⟨m,e1,e2⟩:=Uj (c::s) 0 h4
   have e3:atoi (c::s)=(decNat (c::s)).map fun(m:Nat)=>(m:Int):=by
    simp only[atoi,n45,n43,Bool.false_eq_true,if_false]
   rw[e3]
   unfold decNat
   rw[ak (by simp),e1]
   exact congrArg some e2
 ·cases h
theorem O3 {s:aH} {v:Int} (h0:0<=v) (hl:s.length<=4) (he:itoa v=s):lu s=some v:=by
 unfold itoa at he
 rw[ak (by omega)] at he
 have h1:=aie v.toNat
 rw[he] at h1
 have h2:v.toNat<10000:=eu h1 (by
  have:=Nat.pow_le_pow_right (show 0<10 by omega) hl
  simpa using this)
 have:=ach h2
 rw[he] at this
 rw[this]
 congr 1
 omega
theorem Z9 {s:aH} {v:Int} (h:lu s=some v):itoa v=s:=by
 unfold itoa
 have:=(Md h).1
 rw[ak (by omega)]
 exact(FV h).1.symm
end Go.Proofs.YthbpmepjmebolaaGreatDoor.Bk
end
section
namespace Go.Proofs.YthbpmepjmebolaaGreatDoor.Bk
open jv Go.Lib Go.Proofs.YthbpmepjmebolaaGreatDoor.zS
section
variable (st : jr → Int)
def qM (s:jr) (line:aH):jr×Int:=
 match qh line with
 |none=>(s,4)
 |some (c,n)=>if(iW s c n).1≠0 then(s,(iW s c n).1) else if st (iW s c n).2≠0 then(s,st (iW s c n).2) else((iW s c n).2,0)
def dQ:jr->List aH->jr×List Int
 |s,[]=>(s,[])
 |s,l::ls=>((dQ (qM st s l).1 ls).1,(qM st s l).2::(dQ (qM st s l).1 ls).2)
def xy:jr->List aH->List aH
 |_,[]=>[]
 |s,l::ls=>if(qM st s l).2=0 then l::xy (qM st s l).1 ls else xy (qM st s l).1 ls
variable {st}
theorem Cm {s:jr} {line:aH} (h:qh line=none):qM st s line=(s,4):=by unfold qM;rw[h]
theorem Cj {s:jr} {line:aH} {c:kz} {n:List Int} (h:qh line=some (c,n)):
 qM st s line=if(iW s c n).1≠0 then(s,(iW s c n).1) else if st (iW s c n).2≠0 then(s,st (iW s c n).2) else((iW s c n).2,0):=by unfold qM;rw[h]
theorem aa2 {s:jr} {line:aH} (h:(qM st s line).2=0): ∃c n,qh line=some (c,n)/\(iW s c n).1=0/\st (iW s c n).2=0/\qM st s line=((iW s c n).2,0):=by
 cases hp:qh line with
 |none=>rw[Cm hp] at h;cases h
 |some x=>
  obtain⟨c,n⟩:=x
  rw[Cj hp] at h⊢
  split at h
  ·rename_i h1;exact absurd h h1
  ·rename_i h1
   split at h
   ·rename_i h2;exact absurd h h2
   ·rename_i h2
    rw[ak h1,ak h2]
    exact⟨c,n,rfl,by simpa using h1,by simpa using h2,rfl⟩
theorem Qe {s:jr} {line:aH} (h:(qM st s line).2≠0):(qM st s line).1=s:=by
 cases hp:qh line with
 |none=>rw[Cm hp]
 |some x=>
  obtain⟨c,n⟩:=x
  rw[Cj hp] at h⊢
  split
  ·rfl
  ·rename_i h1
   split
   ·rfl
   ·rename_i h2
    rw[ak h1,ak h2] at h
    exact absurd rfl h
theorem acT {s:jr} (hG:gU s) (line:aH):gU (qM st s line).1:=by
 by_cases h:(qM st s line).2=0
 ·obtain⟨c,n,h1,h2,_,h4⟩:=aa2 h
  rw[h4]
  exact abp hG c (qm h1).2.2.1 h2
 ·rw[Qe h];exact hG
theorem XU {s:jr} (hs:st s=0) (line:aH):st (qM st s line).1=0:=by
 by_cases h:(qM st s line).2=0
 ·obtain⟨c,n,_,_,h3,h4⟩:=aa2 h
  rw[h4];exact h3
 ·rw[Qe h];exact hs
theorem JU: ∀(ls:List aH) {s:jr},gU s->gU (dQ st s ls).1:=by
 intro ls
 induction ls with
 |nil=>intro s h;exact h
 |cons l ls ih=>intro s h;exact ih (acT h l)
theorem OJ: ∀(ls:List aH) {s:jr},st s=0->st (dQ st s ls).1=0:=by
 intro ls
 induction ls with
 |nil=>intro s h;exact h
 |cons l ls ih=>intro s h;exact ih (XU h l)
theorem Gw: ∀(ls:List aH) (s:jr),(dQ st s ls).2.length=ls.length:=by
 intro ls
 induction ls with
 |nil=>intro s;rfl
 |cons l ls ih=>intro s;simp[dQ,ih]
theorem OL: ∀(a b:List aH) (s:jr),dQ st s (a++b)=((dQ st (dQ st s a).1 b).1,(dQ st s a).2++(dQ st (dQ st s a).1 b).2):=by
 intro a
 induction a with
 |nil=>intro b s;rfl
 |cons x a ih=>intro b s;simp only[List.cons_append,dQ,ih]
theorem zy (ls:List aH) (l:aH) (s:jr):dQ st s (ls++[l])=((qM st (dQ st s ls).1 l).1,(dQ st s ls).2++[(qM st (dQ st s ls).1 l).2]):=by
 rw[OL];rfl
theorem OM: ∀(ls:List aH) (s:jr),(dQ st s (xy st s ls)).1=(dQ st s ls).1/\(∀e∈(dQ st s (xy st s ls)).2,e=0):=by
 intro ls
 induction ls with
 |nil=>intro s;exact⟨rfl,fun e h=>by cases h⟩
 |cons l ls ih=>
  intro s
  unfold xy
  split
  ·rename_i h
   have:=ih (qM st s l).1
   refine⟨this.1,fun e he=>?_⟩
   rcases gY.1 he with rfl|he
   ·exact h
   ·exact this.2 e he
  ·rename_i h
   rw[Qe h]
   have:=ih s
   refine⟨?_,this.2⟩
   rw[this.1]
   show _=(dQ st (qM st s l).1 ls).1
   rw[Qe h]
theorem ada: ∀(ls:List aH) (s:jr),(∀e∈(dQ st s ls).2,e=0)->xy st s ls=ls:=by
 intro ls
 induction ls with
 |nil=>intro s _;rfl
 |cons l ls ih=>
  intro s h
  unfold xy
  rw[aF (h _ (by simp[dQ])),ih _ (fun e he=>h e (by simp[dQ,he]))]
theorem adb (ls:List aH) (s:jr):xy st s (xy st s ls)=xy st s ls:=ada _ _ (OM ls s).2
theorem ac9: ∀(a b:List aH) (s:jr),xy st s (a++b)=xy st s a++xy st (dQ st s a).1 b:=by
 intro a
 induction a with
 |nil=>intro b s;rfl
 |cons x a ih=>
  intro b s
  simp only[List.cons_append,xy,ih,dQ]
  split <;>rfl
theorem ac8: ∀(ls:List aH) (s:jr), ∀l∈xy st s ls,l∈ls:=by
 intro ls
 induction ls with
 |nil=>intro s l h;cases h
 |cons x ls ih=>
  intro s l h
  unfold xy at h
  split at h
  ·rcases gY.1 h with rfl|h
   ·simp
   ·simp[ih _ l h]
  ·simp[ih _ l h]
theorem VQ: ∀(ls:List aH) (s:jr),(xy st s ls).length<=ls.length:=by
 intro ls
 induction ls with
 |nil=>intro s;exact ai _
 |cons x ls ih=>
  intro s
  unfold xy
  split
  ·simp only[List.length_cons];have:=ih (qM st s x).1;omega
  ·simp only[List.length_cons];have:=ih (qM st s x).1;omega
end
def kz.of:kz->Nat
 | .row| .left| .tally| .Aa| .lI=>1
 | .rate| .box| .note| .void=>2
 | .start| .bU| .turn| .oJ| .Au| .unread=>3
 |_=>4
theorem Yt (s:jr) (c:kz) (n:List Int):
 (c.of=1∨(iW s c n).2.led.field=s.led.field)/\
 (c.of=2∨((iW s c n).2.led.rate=s.led.rate/\(iW s c n).2.led.box=s.led.box/\(iW s c n).2.led.notes=s.led.notes))/\
 (c.of=3∨(iW s c n).2.heap=s.heap)/\(c.of=4∨(iW s c n).2.dn=s.dn):=by
 cases c <;>simp only[iW] <;>(repeat' split) <;>simp[kz.of,mJ,nH,iK,fP]
end Go.Proofs.YthbpmepjmebolaaGreatDoor.Bk
end
section
namespace Go.Proofs.YthbpmepjmebolaaGreatDoor.Bk
open jv Go.Lib Go.Proofs.YthbpmepjmebolaaGreatDoor.zS
theorem zA {last:Int} {p:Int->Bool} {i:Int}:i∈jl last p↔(0<=i/\i<=last)/\p i=true:=by
 unfold jl
 rw[List.mem_filter,jd]
 constructor
 ·rintro⟨⟨k,hk,rfl⟩,hp⟩
  have:=mD.1 hk
  exact⟨by omega,hp⟩
 ·rintro⟨h,hp⟩
  exact⟨⟨i.toNat,mD.2 (by omega),by omega⟩,hp⟩
variable {st : jr → Int}
end Go.Proofs.YthbpmepjmebolaaGreatDoor.Bk
end
section
namespace Go.Proofs.YthbpmepjmebolaaGreatDoor.Bk
open Go.RowKit Go.RG Go.SL Go.Shelf jv Go.TB
def dL (l:List Bool):List Value:=l.map fun b=> .bool b
abbrev Df (w:World) (v:Value) (l:List Bool):Prop:=aN 1 w v l.length (dL l)
theorem Df.cell {w:World} {o:Option Addr} {n c:Nat} {l:List Bool} (h:aN 1 w (.slice o n c) n (dL l)) {k:Nat} (hk:k<l.length): ∃b off,o=some ⟨b,off,none⟩/\b<w.heap.size/\w.cell? ⟨b,off+k,none⟩=some (.bool l[k]):=by
 obtain⟨hl,o',c',hv,h1,h2,h3,h4⟩:=h
 cases hv
 have hlen:(dL l).length=l.length:=by simp[dL]
 cases o with
 |none=>have:=h3 rfl;omega
 |some a=>
  obtain⟨b,off,sp⟩:=a
  obtain⟨hs,hc⟩:=h4 _ rfl
  simp only at hs hc
  subst hs
  have h0:=hc k (.bool l[k]) (by simp[dL,hk])
  exact⟨b,off,rfl,dN w _ h0,h0⟩
theorem Jq (l:List Bool) (v:Value) (w:World) (hv:Df w v l):Calls Tryz.prog 197 #[v,.bool true] w (PV (.bool (l.contains true)) w):=by
 have hidx:Calls Tryz.prog 263 #[v,.bool true] w (fun e w'=>w=w'/\((l.contains true=true/\ ∃k:Nat,k<l.length/\e= .returned (iv k))∨(l.contains true=false/\e= .returned (iv (-1))))):=by
  have hlen:=aN.len hv
  obtain⟨o,c,rfl⟩:=aN.open hv
  have HV:=ae hv
  clear hv
  go_enter Tryz.func263,Tryz.ntmps263
  go_wp2
  go_loop [4,5,8] (fun _ _ i=> ∃k:Nat,k<=l.length/\i= .int .i64 k/\(∀j (hj:j<l.length),j<k->l[j]=false)) (fun _ _ i=>l.length-(intOf i).toNat)
  case atStart=>exact⟨0,bQ _,rfl,fun j _ hj=>by omega⟩
  case round=>
   obtain⟨k,hk,rfl,hno⟩:=hrel
   have HN:=ae hno
   clear hno
   by_cases hlt:k<l.length
   ·obtain⟨b,off,rfl,hb,hc0⟩:=Df.cell HV.o hlt
    cases he:l[k]
    ·rw[he] at hc0
     have HE:=ae he
     clear he
     go_wp2
     go_round
     case rel=>exact⟨k+1,by omega,by go_num,fun j hj hjk=>(by by_cases e:j=k;(subst e;exact HE.o);exact HN.o j hj (by omega))⟩
     case measure=>simp[intOf];omega
    ·rw[he] at hc0
     have HE:=ae he
     clear he
     go_wp2
     go_returns
     exact⟨rfl,.inl ⟨by first|exact HE.o▸cZ hlt|(rw[List.contains_iff_mem, <-HE.o];exact cZ _),k,hlt,by simp⟩⟩
   ·have hkl:k=l.length:=by omega
    go_wp2
    go_returns
    refine⟨rfl,.inr ⟨?_,by simp⟩⟩
    (try rw[<-Bool.not_eq_true,List.contains_iff_mem])
    intro hm
    obtain⟨j,hj,e⟩:=mG hm
    have:=HN.o j hj (by omega)
    rw[this] at e
    cases e
 have HI:=ae hidx
 clear hidx
 go_enter Tryz.func197,Tryz.ntmps197
 go_wp2_with fail
 refine HI.o.mono ?_
 rintro e w' ⟨rfl,⟨hc,k,hk,rfl⟩|⟨hc,rfl⟩⟩
 ·have HC:=ae hc
  clear hc
  go_wp2_with fail
  go_returns
  exact⟨by rw[HC.o];simp,aG _ _⟩
 ·have HC:=ae hc
  clear hc
  go_wp2_with fail
  go_returns
  exact⟨by rw[HC.o];simp,aG _ _⟩
abbrev kH (code:Int):List PanicEntry:=[{v:= .iface 200 (.agg #[iv code]),recovered:=false}]
def UR (code:Int) (c:Bool) (w:World) (e:Ending) (w':World):Prop:=
 Below w.heap.size w w'/\((c=false/\e= .returned (.tuple #[]))∨(c=true/\e= .panicked (kH code)))
theorem Sj (code:Int) (l:List Bool) (v:Value) (w:World) (hv:Df w v l):Calls Tryz.prog 112 #[iv code,v] w (UR code (l.contains true) w):=by
 have H:=ae (Jq l v w hv)
 obtain⟨o,c,rfl⟩:=aN.open hv
 clear hv
 cases hq:l.contains true
 ·rw[hq] at H
  clear hq
  go_enter Tryz.func112,Tryz.ntmps112
  go_wp2_with fail
  refine H.o.mono ?_
  rintro e w' ⟨rfl,hb⟩
  go_wp2_with fail
  go_end0
  exact⟨hb,.inl ⟨rfl,by simp⟩⟩
 ·rw[hq] at H
  clear hq
  go_enter Tryz.func112,Tryz.ntmps112
  go_wp2_with fail
  refine H.o.mono ?_
  rintro e w' ⟨rfl,hb⟩
  go_wp2_with fail
  exact⟨rfl,hb,.inr ⟨rfl,rfl⟩⟩
def gQ:kz->Nat
 | .row=>176
 | .left=>177
 | .tally=>178
 | .Aa=>179
 | .lI=>180
 | .rate=>181
 | .box=>182
 | .note=>183
 | .void=>184
 | .start=>185
 | .bU=>186
 | .turn=>187
 | .oJ=>188
 | .Au=>189
 | .unread=>190
 | .heap=>191
 | .strong=>192
 | .qg=>193
 | .fill=>194
 | .Bl=>195
 | .uQ=>196
abbrev WE:=Nat×Nat
abbrev wev (e:WE):Value:= .agg #[iv e.1,.func (.func e.2) #[] #[]]
abbrev Wn (s:ByteArray):Value:= .string s
abbrev iy (c:kz):ByteArray:=⟨c.word.toArray⟩
def RN:List (ByteArray×WE):=NI.map fun c=>(iy c,(c.many,gQ c))
theorem ZZ (s:ByteArray): ∀l:List kz,TB.look s (l.map fun c=>(iy c,(c.many,gQ c)))=(l.find? fun c=>c.word==s.data.toList).map fun c=>(c.many,gQ c):=by
 intro l
 induction l with
 |nil=>rfl
 |cons c l ih=>
  rw[List.map_cons,TB.look,List.find?_cons,ih]
  by_cases h:s=iy c
  ·subst h
   have:(c.word==(iy c).data.toList)=true:=by simp[iy]
   rw[aF rfl,this]
   rfl
  ·have:(c.word==s.data.toList)=false:=by
    rw[jH]
    intro e
    refine h ?_
    cases s with
    |mk a=>simp only[iy] at*;rw[e]
   rw[ak h,this]
theorem ZY (s:ByteArray):TB.look s RN=(tZ s.data.toList).map fun c=>(c.many,gQ c):=ZZ s NI
theorem KP (k:TypeId) (hk:Tryz.prog.underlying k=some .string) (a b:ByteArray) (w:World):(Op.equal k (.string a) (.string b)).run Tryz.prog w= .ok (decide (a=b)) w:=by
 unfold Op.equal Op.maxDepth
 simp only[go_sem,hk]
 rw[show(a.toList==b.toList)=decide (a=b) from by rw[Bool.eq_iff_iff,Lib.bytes_beq_iff,fB]]
theorem SQ (k:TypeId) (hk:Tryz.prog.underlying k=some .string) (x:Value) (w:World): ∀(es:List MapEntry) (i:Nat) (r:Option (Nat×Value)),Instr.findNow .string x es i=some r->(Instr.findAsking k x es i).run Tryz.prog w= .ok r w:=by
 intro es
 induction es with
 |nil=>intro i r h;simp only[Instr.findNow,Option.some.injEq] at h;subst h;rfl
 |cons e es ih=>
  intro i r h
  unfold Instr.findNow at h
  cases hs:Instr.sameNow .string x e.key with
  |none=>rw[hs] at h;cases h
  |some b=>
   rw[hs] at h
   obtain⟨a,c,hx,hc,hb⟩: ∃a c:ByteArray,x= .string a/\e.key= .string c/\b=decide (a=c):=by
    revert hs
    cases x <;>cases e.key <;>simp[Instr.sameNow]
    rename_i a c
    intro h
    rw[<-h]
    rw[Bool.eq_iff_iff,Go.MapKept.bytes_beq,fB]
   subst hx
   conv=>lhs;unfold Instr.findAsking
   simp only[Sem.run_bind,hc,KP k hk a c w,Result.andThen_ok]
   cases b
   ·rw[<-hb]
    simp only[Bool.false_eq_true,if_false]
    exact ih (i+1) r h
   ·rw[<-hb]
    simp only[Option.some.injEq] at h
    subst h
    simp
theorem uF:YN Tryz.prog 9 Wn (fun _=>True) where
 find w x es:=by
  have hk:Tryz.prog.underlying 9=some .string:=by kernel_rfl
  cases hn:Instr.findNow .string x es 0 with
  |none=>simp[Instr.findKey,run_underlying hk,hn]
  |some r=>
   rw[SQ 9 hk x w es 0 r hn]
   simp[Instr.findKey,run_underlying hk,hn]
 check b a w _:=by
  unfold Instr.checkKey
  simp[go_sem]
 eq a b w _ _:=KP _ (by kernel_rfl) a b w
 bits a _:=by simp only[Instr.sameBits];exact(Go.MapKept.bytes_beq a a).2 rfl
theorem abZ:TB.store (iy .uQ) (kz.many .uQ,gQ .uQ) (TB.store (iy .Bl) (kz.many .Bl,gQ .Bl) (TB.store (iy .fill) (kz.many .fill,gQ .fill) (TB.store (iy .qg) (kz.many .qg,gQ .qg) (TB.store (iy .strong) (kz.many .strong,gQ .strong) (TB.store (iy .heap) (kz.many .heap,gQ .heap) (TB.store (iy .unread) (kz.many .unread,gQ .unread) (TB.store (iy .Au) (kz.many .Au,gQ .Au) (TB.store (iy .oJ) (kz.many .oJ,gQ .oJ) (TB.store (iy .turn) (kz.many .turn,gQ .turn) (TB.store (iy .bU) (kz.many .bU,gQ .bU) (TB.store (iy .start) (kz.many .start,gQ .start) (TB.store (iy .void) (kz.many .void,gQ .void) (TB.store (iy .note) (kz.many .note,gQ .note) (TB.store (iy .box) (kz.many .box,gQ .box) (TB.store (iy .rate) (kz.many .rate,gQ .rate) (TB.store (iy .lI) (kz.many .lI,gQ .lI) (TB.store (iy .Aa) (kz.many .Aa,gQ .Aa) (TB.store (iy .tally) (kz.many .tally,gQ .tally) (TB.store (iy .left) (kz.many .left,gQ .left) (TB.store (iy .row) (kz.many .row,gQ .row) ([])))))))))))))))))))))=RN:=by
 decide+kernel
def afo (w:World) (e:Ending) (w':World):Prop:= ∃mb,e= .returned (.map (some mb))/\w.heap.size<=mb/\TabAt Wn wev (fun _=>True) w' mb RN/\Below w.heap.size w w'
theorem V7 (w:World):Calls Tryz.prog 111 #[] w (afo w):=by
 have hmm:= @run_makeMap Tryz.prog
 have hm:Tryz.prog.underlying 206=some (.map 9 204):=by kernel_rfl
 have h0:TabAt Wn wev (fun _=>True) (w.alloc (.map #[] 0)) w.heap.size []:=MC (ax _ _)
 obtain⟨W1,r1,t1,e1⟩:=fV uF hm h0 (iy .row) trivial (kz.many .row,gQ .row)
 obtain⟨W2,r2,t2,e2⟩:=fV uF hm t1 (iy .left) trivial (kz.many .left,gQ .left)
 obtain⟨W3,r3,t3,e3⟩:=fV uF hm t2 (iy .tally) trivial (kz.many .tally,gQ .tally)
 obtain⟨W4,r4,t4,e4⟩:=fV uF hm t3 (iy .Aa) trivial (kz.many .Aa,gQ .Aa)
 obtain⟨W5,r5,t5,e5⟩:=fV uF hm t4 (iy .lI) trivial (kz.many .lI,gQ .lI)
 obtain⟨W6,r6,t6,e6⟩:=fV uF hm t5 (iy .rate) trivial (kz.many .rate,gQ .rate)
 obtain⟨W7,r7,t7,e7⟩:=fV uF hm t6 (iy .box) trivial (kz.many .box,gQ .box)
 obtain⟨W8,r8,t8,e8⟩:=fV uF hm t7 (iy .note) trivial (kz.many .note,gQ .note)
 obtain⟨W9,r9,t9,e9⟩:=fV uF hm t8 (iy .void) trivial (kz.many .void,gQ .void)
 obtain⟨UM,r10,t10,e10⟩:=fV uF hm t9 (iy .start) trivial (kz.many .start,gQ .start)
 obtain⟨W11,r11,t11,e11⟩:=fV uF hm t10 (iy .bU) trivial (kz.many .bU,gQ .bU)
 obtain⟨Y5,r12,t12,e12⟩:=fV uF hm t11 (iy .turn) trivial (kz.many .turn,gQ .turn)
 obtain⟨W13,r13,t13,e13⟩:=fV uF hm t12 (iy .oJ) trivial (kz.many .oJ,gQ .oJ)
 obtain⟨VS,r14,t14,e14⟩:=fV uF hm t13 (iy .Au) trivial (kz.many .Au,gQ .Au)
 obtain⟨Yy,r15,t15,e15⟩:=fV uF hm t14 (iy .unread) trivial (kz.many .unread,gQ .unread)
 obtain⟨W16,r16,t16,e16⟩:=fV uF hm t15 (iy .heap) trivial (kz.many .heap,gQ .heap)
 obtain⟨W17,r17,t17,e17⟩:=fV uF hm t16 (iy .strong) trivial (kz.many .strong,gQ .strong)
 obtain⟨W18,r18,t18,e18⟩:=fV uF hm t17 (iy .qg) trivial (kz.many .qg,gQ .qg)
 obtain⟨W19,r19,t19,e19⟩:=fV uF hm t18 (iy .fill) trivial (kz.many .fill,gQ .fill)
 obtain⟨W20,r20,t20,e20⟩:=fV uF hm t19 (iy .Bl) trivial (kz.many .Bl,gQ .Bl)
 obtain⟨W21,r21,t21,e21⟩:=fV uF hm t20 (iy .uQ) trivial (kz.many .uQ,gQ .uQ)
 rw[abZ] at t21
 have hE:Ext [w.heap.size] (w.alloc (.map #[] 0)) W21:=(e1.trans (e2.trans (e3.trans (e4.trans (e5.trans (e6.trans (e7.trans (e8.trans (e9.trans (e10.trans (e11.trans (e12.trans (e13.trans (e14.trans (e15.trans (e16.trans (e17.trans (e18.trans (e19.trans (e20.trans e21))))))))))))))))))))
 have HB:=ae (show Below w.heap.size w W21 from(aj (aG _ _) _).trans ⟨hE.os,hE.tape,hE.output,hE.size,fun b hb=>hE.block b (by simp;omega) (by simp;omega)⟩)
 have HT:=ae t21
 have HE:Hid (w.heap.size<=w.heap.size):=ae (ai _)
 clear h0 hE hm t1 t2 t3 t4 t5 t6 t7 t8 t9 t10 t11 t12 t13 t14 t15 t16 t17 t18 t19 t20 t21 e1 e2 e3 e4 e5 e6 e7 e8 e9 e10 e11 e12 e13 e14 e15 e16 e17 e18 e19 e20 e21
 simp only[iy,kz.word,kz.many,gQ,Wn,wev,iv,Int.cast_ofNat_Int,Int.natCast_zero,Int.natCast_one] at r1 r2 r3 r4 r5 r6 r7 r8 r9 r10 r11 r12 r13 r14 r15 r16 r17 r18 r19 r20 r21
 go_enter Tryz.func111,Tryz.ntmps111
 go_wp2
 go_returns
 exact⟨_,by simp,ai _,HT.o,HB.o⟩
theorem QO {w:World} {b n:Nat} {l:List Bool} {cs:Array Value} {t:TypeId} (h:w.heap[b]? =some (.cells cs t (0,0))) (hc:cs.toList=dL l) (hn:n=l.length) (hm:l.length<=100):Df w (.slice (some ⟨b,0,none⟩) n n) l:=by
 subst hn
 refine⟨by simp[dL],_,_,rfl,ai _,by simp only[maxLen];omega,(fun h=>by cases h),fun a ha=>?_⟩
 cases ha
 refine⟨rfl,?_⟩
 rw[<-hc]
 exact yt h
theorem eG (code:Int) (l:List Bool) (w:World) (hm:l.length<=100) (cs:Array Value) (hc:cs.toList=dL l) (t:TypeId) (n:Nat) (hn:n=l.length):
 Calls Tryz.prog 112 #[iv code,.slice (some ⟨w.heap.size,0,none⟩) n n] (w.alloc (.cells cs t)) (UR code (l.contains true) w):=by
 refine(Sj code l _ _ (QO (ax _ _) hc hn hm)).mono ?_
 rintro e w' ⟨hb,h⟩
 exact⟨aW (aj (aG _ _) _) hb,h⟩
theorem qO (a b:Int) (w:World):Calls Tryz.prog 249 #[iv a,iv b] w (UR 3 (decide (b<=a)) w):=by
 go_enter Tryz.func249,Tryz.ntmps249
 go_wp2_with fail
 refine(eG 3 [decide (b<=a)] w (by simp) _ (by simp[dL]) _ _ rfl).mono ?_
 rintro e w1 ⟨hb,⟨hc,rfl⟩|⟨hc,rfl⟩⟩
 ·(try go_wp2_with fail)
  go_end0
  exact⟨hb,.inl ⟨by simpa using hc,rfl⟩⟩
 ·exact⟨rfl,hb,.inr ⟨by simpa using hc,rfl⟩⟩
theorem jg (a b:Int) (w:World):Calls Tryz.prog 251 #[iv a,iv b] w (UR 7 (decide (b<=a)) w):=by
 go_enter Tryz.func251,Tryz.ntmps251
 go_wp2_with fail
 refine(eG 7 [decide (b<=a)] w (by simp) _ (by simp[dL]) _ _ rfl).mono ?_
 rintro e w1 ⟨hb,⟨hc,rfl⟩|⟨hc,rfl⟩⟩
 ·(try go_wp2_with fail)
  go_end0
  exact⟨hb,.inl ⟨by simpa using hc,rfl⟩⟩
 ·exact⟨rfl,hb,.inr ⟨by simpa using hc,rfl⟩⟩
theorem Gu (a b m:Int) (w:World):Calls Tryz.prog 288 #[iv a,iv b,iv m] w (UR 2 (decide (b<a) ||decide (m<b)) w):=by
 go_enter Tryz.func288,Tryz.ntmps288
 go_wp2_with fail
 refine(eG 2 [decide (b<a),decide (m<b)] w (by simp) _ (by simp[dL]) _ _ rfl).mono ?_
 rintro e w1 ⟨hb,⟨hc,rfl⟩|⟨hc,rfl⟩⟩
 ·(try go_wp2_with fail)
  go_end0
  exact⟨hb,.inl ⟨by simpa using hc,rfl⟩⟩
 ·exact⟨rfl,hb,.inr ⟨by simpa using hc,rfl⟩⟩
theorem Ap (a b m k:Int) (w:World) (hx:0<=a/\a<=100000/\0<=k/\k<=100000):Calls Tryz.prog 255 #[iv a,iv b,iv m,iv k] w (UR 2 (decide (b<a) ||(decide (m<b) ||decide (a+k<b))) w):=by
 go_enter Tryz.func255,Tryz.ntmps255
 go_wp2_with fail
 refine(eG 2 [decide (b<a),decide (m<b),decide (a+k<b)] w (by simp) _ (by simp[dL]) _ _ rfl).mono ?_
 rintro e w1 ⟨hb,⟨hc,rfl⟩|⟨hc,rfl⟩⟩
 ·(try go_wp2_with fail)
  go_end0
  exact⟨hb,.inl ⟨by simpa using hc,rfl⟩⟩
 ·exact⟨rfl,hb,.inr ⟨by simpa using hc,rfl⟩⟩
end Go.Proofs.YthbpmepjmebolaaGreatDoor.Bk
end
section
namespace Go.Proofs.YthbpmepjmebolaaGreatDoor.Bk
open Go.RowKit Go.RG Go.SL Go.Shelf jv Go.TB Go.Proofs.YthbpmepjmebolaaGreatDoor.zS
structure Row where
 t:TypeId
 size:Nat
 v:Value
 n:Nat
 xs:List Value
structure xU (N:Nat) (w:World) (wb:Nat) (R:List Row):Prop where
 own: ∀(i:Nat) (r:Row),R[i]? =some r->w.ownsRow N r.t r.size r.v r.n r.xs
 apart: ∀(i j:Nat) (a b:Row),R[i]? =some a->R[j]? =some b->i≠j->a.v.ownBlock=none∨a.v.ownBlock≠b.v.ownBlock
 off: ∀(i:Nat) (r:Row),R[i]? =some r->r.v.ownBlock≠some wb
 lt:wb<w.heap.size
 base:N<=wb
theorem dR {w W:World} {N:Nat} {t:TypeId} {size:Nat} {v:Value} {n:Nat} {xs:List Value} (h:w.ownsRow N t size v n xs) {Ms:List Nat} (hE:Ext Ms w W) (hM: ∀b,v.ownBlock=some b->b∉Ms):W.ownsRow N t size v n xs:=by
 obtain⟨h1,h2|⟨g,c,cs,rfl,hb,hc,h3⟩⟩:=h
 ·exact⟨h1,.inl h2⟩
 ·exact⟨h1,.inr ⟨g,c,cs,rfl,hb,(hE.block g (aV.1 hc).1 (hM g rfl)).trans hc,h3⟩⟩
theorem xU.keep {N:Nat} {w W:World} {wb:Nat} {R:List Row} (h:xU N w wb R) {Ms:List Nat} (hE:Ext Ms w W) (hM: ∀m∈Ms,m=wb∨m<N):xU N W wb R where
 own i r hr:=dR (h.own i r hr) hE (fun b hb hm=>by
  rcases hM b hm with rfl|h1
  ·exact h.off i r hr hb
  ·have:=((h.own i r hr).lt b hb).1;omega)
 apart:=h.apart
 off:=h.off
 lt:=eu h.lt hE.size
 base:=h.base
theorem xU.put {N:Nat} {w W:World} {wb:Nat} {R:List Row} (h:xU N w wb R) {i:Nat} {r:Row} (hr:R[i]? =some r) (r':Row) {Ms:List Nat} (hE:Ext Ms w W) (hM: ∀m∈Ms,m=wb∨m<N∨r.v.ownBlock=some m)
 (ho:W.ownsRow N r'.t r'.size r'.v r'.n r'.xs) (hb:r'.v.ownBlock=r.v.ownBlock∨r'.v.ownBlock=none∨ ∃k,r'.v.ownBlock=some k/\w.heap.size<=k):xU N W wb (R.set i r'):=by
 have hlt:=(jf.1 hr).1
 have key: ∀(j:Nat) (x:Row),(R.set i r')[j]? =some x->(j=i/\x=r')∨(j≠i/\R[j]? =some x):=by
  intro j x hx
  rw[List.getElem?_set] at hx
  by_cases e:i=j
  ·subst e
   rw[aF rfl,aF hlt] at hx
   exact .inl ⟨rfl,(jG hx).symm⟩
  ·rw[ak e] at hx
   exact .inr ⟨fun h=>e h.symm,hx⟩
 have new: ∀(j:Nat) (x:Row),R[j]? =some x->j≠i->x.v.ownBlock=none∨x.v.ownBlock≠r'.v.ownBlock:=by
  intro j x hx hj
  rcases hb with hb|hb|⟨k,hk,hs⟩
  ·rw[hb];exact h.apart j i x r hx hr hj
  ·rw[hb]
   cases x.v.ownBlock with
   |none=>exact .inl rfl
   |some b=>exact .inr (by simp)
  ·rw[hk]
   cases hxb:x.v.ownBlock with
   |none=>exact .inl rfl
   |some b=>
    refine .inr fun e=>?_
    obtain rfl:=jG e
    have:=((h.own j x hx).lt b hxb).2
    omega
 refine⟨fun j x hx=>?_,fun j k a b ha hbb hjk=>?_,fun j x hx=>?_,eu h.lt hE.size,h.base⟩
 ·rcases key j x hx with⟨rfl,rfl⟩|⟨hj,hx'⟩
  ·exact ho
  ·refine dR (h.own j x hx') hE (fun b hbb hm=>?_)
   rcases hM b hm with rfl|h1|h1
   ·exact h.off j x hx' hbb
   ·have:=((h.own j x hx').lt b hbb).1;omega
   ·rcases h.apart j i x r hx' hr hj with h2|h2
    ·rw[h2] at hbb;cases hbb
    ·exact h2 (hbb.trans h1.symm)
 ·rcases key j a ha with⟨rfl,rfl⟩|⟨hj,ha'⟩
  ·rcases key k b hbb with⟨rfl,rfl⟩|⟨hk,hb'⟩
   ·exact absurd rfl hjk
   ·rcases new k b hb' hk with h1|h1
    ·rcases hq:a.v.ownBlock with _|q
     ·exact .inl rfl
     ·exact .inr (by rw[h1];simp)
    ·exact .inr fun e=>h1 e.symm
  ·rcases key k b hbb with⟨rfl,rfl⟩|⟨hk,hb'⟩
   ·exact new j a ha' hj
   ·exact h.apart j k a b ha' hb' hjk
 ·rcases key j x hx with⟨rfl,rfl⟩|⟨hj,hx'⟩
  ·rcases hb with hb|hb|⟨k,hk,hs⟩
   ·rw[hb];exact h.off _ r hr
   ·rw[hb];simp
   ·rw[hk];intro e;obtain rfl:=jG e;have:=h.lt;omega
  ·exact h.off j x hx'
theorem xU.push {N:Nat} {w W:World} {wb:Nat} {R:List Row} (h:xU N w wb R) (r':Row) {Ms:List Nat} (hE:Ext Ms w W) (hM: ∀m∈Ms,m=wb∨m<N)
 (ho:W.ownsRow N r'.t r'.size r'.v r'.n r'.xs) (hb:r'.v.ownBlock=none∨ ∃k,r'.v.ownBlock=some k/\w.heap.size<=k):xU N W wb (R++[r']):=by
 have hk:=h.keep hE hM
 have key: ∀(j:Nat) (x:Row),(R++[r'])[j]? =some x->(R[j]? =some x)∨(j=R.length/\x=r'):=by
  intro j x hx
  by_cases hj:j<R.length
  ·rw[vJ hj] at hx;exact .inl hx
  ·rw[nG (by omega)] at hx
   have h0:=(jf.1 hx).1
   simp only[List.length_cons,List.length_nil] at h0
   have:j-R.length=0:=by omega
   rw[this] at hx
   simp only[List.getElem?_cons_zero,Option.some.injEq] at hx
   exact .inr ⟨by omega,hx.symm⟩
 have new: ∀(j:Nat) (x:Row),R[j]? =some x->(x.v.ownBlock=none∨x.v.ownBlock≠r'.v.ownBlock)/\(r'.v.ownBlock=none∨r'.v.ownBlock≠x.v.ownBlock):=by
  intro j x hx
  rcases hb with hb|⟨k,hk,hs⟩
  ·rw[hb]
   refine⟨?_,.inl rfl⟩
   cases x.v.ownBlock with
   |none=>exact .inl rfl
   |some b=>exact .inr (by simp)
  ·have:x.v.ownBlock≠some k:=fun e=>by have:=((h.own j x hx).lt k e).2;omega
   rw[hk]
   exact⟨.inr this,.inr fun e=>this e.symm⟩
 refine⟨fun j x hx=>?_,fun j k a b ha hbb hjk=>?_,fun j x hx=>?_,hk.lt,h.base⟩
 ·rcases key j x hx with h1|⟨_,rfl⟩
  ·exact hk.own j x h1
  ·exact ho
 ·rcases key j a ha with h1|⟨h1,rfl⟩ <;>rcases key k b hbb with h2|⟨h2,rfl⟩
  ·exact h.apart j k a b h1 h2 hjk
  ·exact(new j a h1).1
  ·exact(new k b h2).2
  ·omega
 ·rcases key j x hx with h1|⟨_,rfl⟩
  ·exact h.off j x h1
  ·rcases hb with hb|⟨k,hk,hs⟩
   ·rw[hb];simp
   ·rw[hk];intro e;obtain rfl:=jG e;have:=h.lt;omega
structure SV where
 uB:Value
 Je:Value
 bU:Value
 Ac:Value
 Ak:Value
 hps:Value
 cks:Value
 trs:Value
abbrev bY (s:jr) (V:SV):Array Value:=
 #[iv s.led.field.rows,iv s.led.field.aO,iv s.led.field.left.1,iv s.led.field.left.2,V.uB,iv s.led.rate,iv s.led.box.1,iv s.led.box.2,V.Je,
   iv s.heap.last,iv s.heap.size,iv s.heap.bn,iv s.heap.die,iv s.heap.uK,iv s.heap.start.1,iv s.heap.start.2,V.bU,V.Ac,V.Ak,V.hps,V.cks,V.trs]
def zL (e:KE):Row:=⟨3,1,e.1,e.2.length,ah e.2⟩
def iP (s:jr) (V:SV) (es:List KE):List Row:=
 [⟨118,5,V.uB,s.led.field.az.length,dS s.led.field.az⟩,⟨120,3,V.Je,s.led.notes.length,aY s.led.notes⟩,
   ⟨34,2,V.bU,s.heap.bU.length,aI s.heap.bU⟩,⟨3,1,V.Ac,s.heap.turns.length,ah s.heap.turns⟩,⟨122,3,V.Ak,s.heap.readings.length,aY s.heap.readings⟩,
   ⟨112,2,V.hps,s.dn.heaps.length,aI s.dn.heaps⟩,⟨36,1,V.cks,es.length,fG es⟩,⟨124,4,V.trs,s.dn.aK.length,gV s.dn.aK⟩]++es.map zL
structure jV (N:Nat) (w:World) (wb:Nat) (s:jr) (V:SV) (es:List KE):Prop where
 blk:w.heap[wb]? =some (.cells (bY s V) 212 (0,0))
 rows:xU N w wb (iP s V es)
 es:es.map (·.2)=s.dn.aT
def rW (N:Nat) (w:World) (ns:Value) (l:List Int):Prop:= ∃b c,ns= .slice (some ⟨b,0,none⟩) l.length c/\b<N/\ ∀(j:Nat) (h:j<l.length),w.cell? ⟨b,j,none⟩=some (iv l[j])
def rE (N:Nat) (wb:Nat) (x:Int×jr) (w:World) (e:Ending) (w':World):Prop:=
 Below N w w'/\((x.1=0/\e= .returned (.tuple #[])/\ ∃V es,jV N w' wb x.2 V es)∨(x.1≠0/\e= .panicked (kH x.1)))
theorem eY {N:Nat} {w:World} {wb:Nat} {s:jr} {V:SV} {es:List KE} (h:jV N w wb s V es):N<=w.heap.size:=by have:=h.rows.lt;have:=h.rows.base;omega
theorem jV.below {N:Nat} {w W:World} {wb:Nat} {s:jr} {V:SV} {es:List KE} (h:jV N w wb s V es) (hb:Below w.heap.size w W):jV N W wb s V es:=
 ⟨(hb.block _ h.rows.lt).trans h.blk,h.rows.keep (Ms:=[]) (Ext.aA hb) (by simp),h.es⟩
theorem jV.store {N:Nat} {w W:World} {wb:Nat} {s s':jr} {V:SV} {es:List KE} (h:jV N w wb s V es) (hE:Ext [wb] w W) (hb:W.heap[wb]? =some (.cells (bY s' V) 212 (0,0))) (hr:iP s' V es=iP s V es) (hc:s'.dn.aT=s.dn.aT):jV N W wb s' V es:=
 ⟨hb,by rw[hr];exact h.rows.keep hE (fun m hm=> .inl (by simpa using hm)),by rw[hc];exact h.es⟩
theorem gI {W:World} {b off:Nat} {v:Value}:Ext [b] W (W.setCell ⟨b,off,none⟩ v):=
 ⟨rfl,rfl,rfl,by simp[World.setCell],fun k _ hm=>heap_setCell_other W _ k v (by simpa using hm)⟩
theorem bZ (a b m:Int):(LW a b m=false)= ¬(a<=b/\b<=m):=by
 unfold LW
 by_cases h1:a<=b <;>by_cases h2:b<=m <;>simp[h1,h2]
theorem cu (a b m k:Int):(MF a b m k=false)= ¬(a<=b/\b<=m/\b<=a+k):=by
 unfold MF
 by_cases h1:a<=b <;>by_cases h2:b<=m <;>by_cases h3:b<=a+k <;>simp[h1,h2,h3]
def afq (c:Prop) (v:Value) (w:World) (e:Ending) (w':World):Prop:=Below w.heap.size w w'/\((c/\e= .returned v)∨(¬c/\e= .panicked (kH 2)))
theorem wO {N wb:Nat} {x:Int×jr} {w w':World} {c:Int} (h3:Below N w w') (hx:x.1=c) (hc:c≠0):rE N wb x w (.panicked (kH c)) w':=⟨h3,.inr ⟨by rw[hx];exact hc,by rw[hx]⟩⟩
theorem vX (a b:Int) (w:World):Calls Tryz.prog 253 #[iv a,iv b] w (afq (a<=b/\b<=2000) (rv (a,b)) w):=by
 go_enter Tryz.func253,Tryz.ntmps253
 go_wp2_with fail
 refine(Gu _ _ _ _).mono ?_
 rintro e w1 ⟨hb,⟨hc,rfl⟩|⟨hc,rfl⟩⟩
 ·simp only[Bool.or_eq_false_iff,decide_eq_false_iff_not] at hc
  have HB:=ae hb
  obtain⟨c0,f0,l0⟩:=af ((hb.block w.heap.size (by simp)).trans (ax _ _))
  have HC:=ae hc
  have c00:=c0 0
  have c01:=c0 1
  simp at c00 c01
  have d0:(w1.setCell ⟨w.heap.size,0,none⟩ (iv a)).cell? ⟨w.heap.size,0,none⟩=some (iv a):=World.cell?_setCell_same _ _ _ c00
  have d1:((w1.setCell ⟨w.heap.size,0,none⟩ (iv a)).setCell ⟨w.heap.size,1,none⟩ (iv b)).cell? ⟨w.heap.size,1,none⟩=some (iv b):=World.cell?_setCell_same _ _ _ ((World.cell?_setCell_other _ _ _ _ (by simp)).trans c01)
  clear hb hc c0
  go_wp2_with fail
  (try simp only[Exit.inBlock,Exit.then])
  refine bodyPost_ret (v:=rv (a,b)) (by simp[results,Tryz.results253,go_sem,d0,d1]) rfl ?_
  exact⟨((aW (aj (aG _ _) _) HB.o).setCell (ai _) _).setCell (ai _) _,.inl ⟨by have:=HC.o;omega,rfl⟩⟩
 ·simp only[Bool.or_eq_true,fB] at hc
  exact⟨rfl,aW (aj (aG _ _) _) hb,.inr ⟨by omega,rfl⟩⟩
theorem uV (a b:Int) (wb:Nat) (s:jr) (V:SV) (w:World) (hblk:w.heap[wb]? =some (.cells (bY s V) 212 (0,0))):Calls Tryz.prog 250 #[.pointer (some ⟨wb,0,none⟩),iv a,iv b] w (afq (a<=b/\b<=s.led.field.rows) (rv (a,b)) w):=by
 obtain⟨k0,g0,j0⟩:=af hblk
 clear hblk
 go_enter Tryz.func250,Tryz.ntmps250
 go_wp2_with fail
 refine(Gu _ _ _ _).mono ?_
 rintro e w1 ⟨hb,⟨hc,rfl⟩|⟨hc,rfl⟩⟩
 ·simp only[Bool.or_eq_false_iff,decide_eq_false_iff_not] at hc
  have HB:=ae hb
  obtain⟨c0,f0,l0⟩:=af ((hb.block w.heap.size (by simp)).trans (ax _ _))
  have HC:=ae hc
  have c00:=c0 0
  have c01:=c0 1
  simp at c00 c01
  have d0:(w1.setCell ⟨w.heap.size,0,none⟩ (iv a)).cell? ⟨w.heap.size,0,none⟩=some (iv a):=World.cell?_setCell_same _ _ _ c00
  have d1:((w1.setCell ⟨w.heap.size,0,none⟩ (iv a)).setCell ⟨w.heap.size,1,none⟩ (iv b)).cell? ⟨w.heap.size,1,none⟩=some (iv b):=World.cell?_setCell_same _ _ _ ((World.cell?_setCell_other _ _ _ _ (by simp)).trans c01)
  clear hb hc c0 k0 g0 j0
  go_wp2_with fail
  (try simp only[Exit.inBlock,Exit.then])
  refine bodyPost_ret (v:=rv (a,b)) (by simp[results,Tryz.results250,go_sem,d0,d1]) rfl ?_
  exact⟨((aW (aj (aG _ _) _) HB.o).setCell (ai _) _).setCell (ai _) _,.inl ⟨by have:=HC.o;omega,rfl⟩⟩
 ·simp only[Bool.or_eq_true,fB] at hc
  exact⟨rfl,aW (aj (aG _ _) _) hb,.inr ⟨by omega,rfl⟩⟩
theorem wL (a b k:Int) (w:World) (hx:0<=a/\a<=100000/\0<=k/\k<=100000):Calls Tryz.prog 260 #[iv a,iv b,iv k] w (afq (a<=b/\b<=100/\b<=a+k) (rv (a,b)) w):=by
 go_enter Tryz.func260,Tryz.ntmps260
 go_wp2_with fail
 refine(Ap _ _ _ _ _ hx).mono ?_
 rintro e w1 ⟨hb,⟨hc,rfl⟩|⟨hc,rfl⟩⟩
 ·simp only[Bool.or_eq_false_iff,decide_eq_false_iff_not] at hc
  have HB:=ae hb
  obtain⟨c0,f0,l0⟩:=af ((hb.block w.heap.size (by simp)).trans (ax _ _))
  have HC:=ae hc
  have c00:=c0 0
  have c01:=c0 1
  simp at c00 c01
  have d0:(w1.setCell ⟨w.heap.size,0,none⟩ (iv a)).cell? ⟨w.heap.size,0,none⟩=some (iv a):=World.cell?_setCell_same _ _ _ c00
  have d1:((w1.setCell ⟨w.heap.size,0,none⟩ (iv a)).setCell ⟨w.heap.size,1,none⟩ (iv b)).cell? ⟨w.heap.size,1,none⟩=some (iv b):=World.cell?_setCell_same _ _ _ ((World.cell?_setCell_other _ _ _ _ (by simp)).trans c01)
  clear hb hc c0
  go_wp2_with fail
  (try simp only[Exit.inBlock,Exit.then])
  refine bodyPost_ret (v:=rv (a,b)) (by simp[results,Tryz.results260,go_sem,d0,d1]) rfl ?_
  exact⟨((aW (aj (aG _ _) _) HB.o).setCell (ai _) _).setCell (ai _) _,.inl ⟨by have:=HC.o;omega,rfl⟩⟩
 ·simp only[Bool.or_eq_true,fB] at hc
  exact⟨rfl,aW (aj (aG _ _) _) hb,.inr ⟨by omega,rfl⟩⟩
theorem yG (a:Int) (wb:Nat) (s:jr) (V:SV) (w:World) (hblk:w.heap[wb]? =some (.cells (bY s V) 212 (0,0))) (hl:s.heap.last=4):Calls Tryz.prog 256 #[.pointer (some ⟨wb,0,none⟩),iv a] w (UR 7 (decide (4<a)) w):=by
 obtain⟨k0,g0,j0⟩:=af hblk
 clear hblk
 go_enter Tryz.func256,Tryz.ntmps256
 go_wp2_with fail
 refine(jg _ _ _).mono ?_
 rintro e w1 ⟨hb,⟨hc,rfl⟩|⟨hc,rfl⟩⟩
 ·(try go_wp2_with fail)
  go_end0
  exact⟨hb,.inl ⟨by simp at hc⊢;omega,rfl⟩⟩
 ·exact⟨rfl,hb,.inr ⟨by simp at hc⊢;omega,rfl⟩⟩
theorem aca (N:Nat) (w:World) (wb:Nat) (s:jr) (V:SV) (es:List KE) (ns:Value) (hO:jV N w wb s V es) (hG:gU s):Calls Tryz.prog 176 #[.pointer (some ⟨wb,0,none⟩),ns] w (rE N wb (iW s .row []) w):=by
 have HO:=ae hO
 have hr:=hG.rows
 obtain⟨c0,f0,l0⟩:=af hO.blk
 clear hO hG
 go_enter Tryz.func176,Tryz.ntmps176
 go_wp2_with fail
 refine(qO _ _ _).mono ?_
 rintro e w1 ⟨hb,⟨hc,rfl⟩|⟨hc,rfl⟩⟩
 ·obtain⟨c1,f1,l1⟩:=af ((hb.block _ l0).trans HO.o.blk)
  have HB:=ae hb
  clear hb c0 f0
  have hlt: ¬5<=s.led.field.rows:=by simpa using hc
  have hlt':s.led.field.rows<5:=by omega
  clear hc
  go_wp2_with fail
  go_end0
  have AU:=HO.o.below HB.o
  simp only[iW]
  rw[ak (by omega)]
  refine⟨(HB.o.mono (eY HO.o)).setCell HO.o.rows.base _,.inl ⟨rfl,rfl,V,es,?_⟩⟩
  exact AU.store gI (aJ AU.blk _) rfl rfl
 ·have hge:5<=s.led.field.rows:=by simpa using hc
  simp only[iW]
  rw[aF hge]
  exact⟨rfl,hb.mono (eY HO.o),.inr ⟨by simp,rfl⟩⟩
theorem ZA (N:Nat) (w:World) (wb:Nat) (s:jr) (V:SV) (es:List KE) (ns:Value) (x:Int) (hO:jV N w wb s V es) (hn:rW N w ns [x]):Calls Tryz.prog 181 #[.pointer (some ⟨wb,0,none⟩),ns] w (rE N wb (iW s .rate [x]) w):=by
 obtain⟨vt,vn,vw,vu,vr,vh,vk,vs⟩:=V
 have HO:=ae hO
 have gK:=eY hO
 obtain⟨b,c,rfl,hbN,hcs⟩:=hn
 have lb:b<w.heap.size:=by omega
 have lw:=hO.rows.lt
 have wK:=hO.rows.base
 have HW:Hid (∀W,Below N w W->b<W.heap.size/\ ∀(j:Nat) (h:j<[x].length),W.cell? ⟨b,j,none⟩=some (iv [x][j])):=ae (fun W hB=>⟨by have:=hB.size;omega,fun j h=>(je (hB.block b hbN)).trans (hcs j h)⟩)
 obtain⟨c0,f0,l0⟩:=af hO.blk
 have oZ:=hcs 0 (by simp)
 simp only[au] at oZ
 have HB0:Hid (Below w.heap.size w w):=ae (aG _ _)
 clear hO hcs
 go_enter Tryz.func181,Tryz.ntmps181
 go_wp2_with fail
 refine zg 8 [] none [] ?_
 simp only[zt]
 repeat ((first|refine zd ?_|refine zk ?_);simp only[zp])
 intro W1 hE hF
 have HB1:=ae (aW HB0.o hE.below)
 clear hE hF c0 f0 oZ
 obtain⟨c1,f1,l1⟩:=af ((HB1.o.block _ lw).trans HO.o.blk)
 obtain⟨wW,hcs1⟩:=HW.o W1 (HB1.o.mono gK)
 have n10:=hcs1 0 (by simp)
 simp only[au] at n10
 clear hcs1
 go_wp2_with fail
 refine(eG 2 [x==0,decide (50<x)] W1 (by simp) _ (by simp[dL]) _ _ rfl).mono ?_
 rintro e W2 ⟨hb,⟨hc,rfl⟩|⟨hc,rfl⟩⟩
 rotate_left
 ·simp at hc
  simp only[iW,bZ,cu,dG]
  (repeat (first|rw[aF (by omega)]|rw[ak (by omega)]))
  exact⟨rfl,(aW HB1.o hb).mono gK,.inr ⟨by simp,rfl⟩⟩
 simp at hc
 have HB2:=ae (aW HB1.o hb)
 have jS:=ae hc
 clear hb hc c1 f1 wW n10
 obtain⟨c2,f2,l2⟩:=af ((HB2.o.block _ lw).trans HO.o.blk)
 obtain⟨xW,hcs2⟩:=HW.o W2 (HB2.o.mono gK)
 have n20:=hcs2 0 (by simp)
 simp only[au] at n20
 clear hcs2
 go_wp2_with fail
 go_end0
 have q0:=jS.o
 simp only[iW,bZ,cu,dG]
 (repeat (first|rw[aF (by omega)]|rw[ak (by omega)]))
 have AU:=HO.o.below HB2.o
 exact⟨((HB2.o.mono gK).setCell wK _),.inl ⟨rfl,rfl,_,es,AU.store (gI) (aJ (AU.blk) _) rfl rfl⟩⟩
theorem ac2 (N:Nat) (w:World) (wb:Nat) (s:jr) (V:SV) (es:List KE) (ns:Value) (x y:Int) (hO:jV N w wb s V es) (hn:rW N w ns [x,y]):Calls Tryz.prog 182 #[.pointer (some ⟨wb,0,none⟩),ns] w (rE N wb (iW s .box [x,y]) w):=by
 obtain⟨vt,vn,vw,vu,vr,vh,vk,vs⟩:=V
 have HO:=ae hO
 have gK:=eY hO
 obtain⟨b,c,rfl,hbN,hcs⟩:=hn
 have lb:b<w.heap.size:=by omega
 have lw:=hO.rows.lt
 have wK:=hO.rows.base
 have HW:Hid (∀W,Below N w W->b<W.heap.size/\ ∀(j:Nat) (h:j<[x,y].length),W.cell? ⟨b,j,none⟩=some (iv [x,y][j])):=ae (fun W hB=>⟨by have:=hB.size;omega,fun j h=>(je (hB.block b hbN)).trans (hcs j h)⟩)
 obtain⟨c0,f0,l0⟩:=af hO.blk
 have oZ:=hcs 0 (by simp)
 simp only[au] at oZ
 have n01:=hcs 1 (by simp)
 simp only[au] at n01
 have HB0:Hid (Below w.heap.size w w):=ae (aG _ _)
 clear hO hcs
 go_enter Tryz.func182,Tryz.ntmps182
 go_wp2_with fail
 refine RX.gG (fun ps W'=> ¬(x<=y/\y<=2000)/\ps=kH 2/\Below N w W') 8 [] none [(7,⟨fun _ v=>v=rv (x,y),fun _ _ _=>(x<=y/\y<=2000)⟩)] (by rintro ps a1 Wx hdf ⟨h1,rfl,h3⟩;refine⟨hdf,wO (c:=2) h3 ?_ (by decide)⟩;simp only[iW,bZ,cu,dG];(repeat (first|rw[aF (by omega)]|rw[ak (by omega)]))) (by as_aux_lemma=>kernel_rfl) (by as_aux_lemma=>kernel_rfl) ?_
 simp only[zt]
 repeat (refine RX.zd ?_;simp only[zp])
 refine RX.bK _ (by rfl) (by rfl) ⟨_,rfl⟩ (fun Wq hE2 hF2=>?_) (fun v Wa Wb ho hE=>ho) (fun v hv=>?_)
 ·have hE':Ext [] w Wq:=hE2
  refine RX.dF 253 #[iv x,iv y] (by go_simp;try rfl) ?_
  refine(vX x y Wq).mono ?_
  rintro e w' ⟨hb,⟨hc,rfl⟩|⟨hc,rfl⟩⟩
  ·exact .inl ⟨_,rfl,rfl,hc,Ext.aA hb⟩
  ·exact .inr ⟨_,rfl,hc,rfl,(aW HB0.o (aW hE'.below hb)).mono gK⟩
 obtain rfl:v=rv (x,y):=hv
 simp only[zp]
 intro W1 hE hF
 have hc:x<=y/\y<=2000:=hF _ (bI _)
 have HB1:=ae (aW HB0.o (show Ext [] w W1 from hE).below)
 have jS:=ae hc
 clear hE hF hc c0 f0 oZ n01
 obtain⟨c1,f1,l1⟩:=af ((HB1.o.block _ lw).trans HO.o.blk)
 obtain⟨wW,hcs1⟩:=HW.o W1 (HB1.o.mono gK)
 have n10:=hcs1 0 (by simp)
 simp only[au] at n10
 have n11:=hcs1 1 (by simp)
 simp only[au] at n11
 clear hcs1
 go_wp2_with fail
 go_end0
 have q0:=jS.o
 simp only[iW,bZ,cu,dG]
 (repeat (first|rw[aF (by omega)]|rw[ak (by omega)]))
 have AU:=HO.o.below HB1.o
 exact⟨(((HB1.o.mono gK).setCell wK _).setCell wK _),.inl ⟨rfl,rfl,_,es,AU.store ((gI).trans gI) (aJ (aJ (AU.blk) _) _) rfl rfl⟩⟩
theorem Z5 (N:Nat) (w:World) (wb:Nat) (s:jr) (V:SV) (es:List KE) (ns:Value) (x y:Int) (hO:jV N w wb s V es) (hn:rW N w ns [x,y]):Calls Tryz.prog 177 #[.pointer (some ⟨wb,0,none⟩),ns] w (rE N wb (iW s .left [x,y]) w):=by
 obtain⟨vt,vn,vw,vu,vr,vh,vk,vs⟩:=V
 have HO:=ae hO
 have gK:=eY hO
 obtain⟨b,c,rfl,hbN,hcs⟩:=hn
 have lb:b<w.heap.size:=by omega
 have lw:=hO.rows.lt
 have wK:=hO.rows.base
 have HW:Hid (∀W,Below N w W->b<W.heap.size/\ ∀(j:Nat) (h:j<[x,y].length),W.cell? ⟨b,j,none⟩=some (iv [x,y][j])):=ae (fun W hB=>⟨by have:=hB.size;omega,fun j h=>(je (hB.block b hbN)).trans (hcs j h)⟩)
 obtain⟨c0,f0,l0⟩:=af hO.blk
 have oZ:=hcs 0 (by simp)
 simp only[au] at oZ
 have n01:=hcs 1 (by simp)
 simp only[au] at n01
 have HB0:Hid (Below w.heap.size w w):=ae (aG _ _)
 clear hO hcs
 go_enter Tryz.func177,Tryz.ntmps177
 go_wp2_with fail
 refine RX.gG (fun ps W'=> ¬(x<=y/\y<=s.led.field.rows)/\ps=kH 2/\Below N w W') 9 [] none [(8,⟨fun _ v=>v=rv (x,y),fun _ _ _=>(x<=y/\y<=s.led.field.rows)⟩)] (by rintro ps a1 Wx hdf ⟨h1,rfl,h3⟩;refine⟨hdf,wO (c:=2) h3 ?_ (by decide)⟩;simp only[iW,bZ,cu,dG];(repeat (first|rw[aF (by omega)]|rw[ak (by omega)]))) (by as_aux_lemma=>kernel_rfl) (by as_aux_lemma=>kernel_rfl) ?_
 simp only[zt]
 repeat (refine RX.zd ?_;simp only[zp])
 refine RX.bK _ (by rfl) (by rfl) ⟨_,rfl⟩ (fun Wq hE2 hF2=>?_) (fun v Wa Wb ho hE=>ho) (fun v hv=>?_)
 ·have hE':Ext [] w Wq:=hE2
  refine RX.dF 250 #[.pointer (some ⟨wb,0,none⟩),iv x,iv y] (by go_simp;try rfl) ?_
  refine(uV x y wb s _ Wq ((hE'.block _ lw (by simp)).trans HO.o.blk)).mono ?_
  rintro e w' ⟨hb,⟨hc,rfl⟩|⟨hc,rfl⟩⟩
  ·exact .inl ⟨_,rfl,rfl,hc,Ext.aA hb⟩
  ·exact .inr ⟨_,rfl,hc,rfl,(aW HB0.o (aW hE'.below hb)).mono gK⟩
 obtain rfl:v=rv (x,y):=hv
 simp only[zp]
 intro W1 hE hF
 have hc:x<=y/\y<=s.led.field.rows:=hF _ (bI _)
 have HB1:=ae (aW HB0.o (show Ext [] w W1 from hE).below)
 have jS:=ae hc
 clear hE hF hc c0 f0 oZ n01
 obtain⟨c1,f1,l1⟩:=af ((HB1.o.block _ lw).trans HO.o.blk)
 obtain⟨wW,hcs1⟩:=HW.o W1 (HB1.o.mono gK)
 have n10:=hcs1 0 (by simp)
 simp only[au] at n10
 have n11:=hcs1 1 (by simp)
 simp only[au] at n11
 clear hcs1
 go_wp2_with fail
 go_end0
 have q0:=jS.o
 simp only[iW,bZ,cu,dG]
 (repeat (first|rw[aF (by omega)]|rw[ak (by omega)]))
 have AU:=HO.o.below HB1.o
 exact⟨(((HB1.o.mono gK).setCell wK _).setCell wK _),.inl ⟨rfl,rfl,_,es,AU.store ((gI).trans gI) (aJ (aJ (AU.blk) _) _) rfl rfl⟩⟩
theorem Wp (N:Nat) (w:World) (wb:Nat) (s:jr) (V:SV) (es:List KE) (ns:Value) (x y:Int) (hO:jV N w wb s V es) (hn:rW N w ns [x,y]) (hx:0<=x/\x<=9999):Calls Tryz.prog 185 #[.pointer (some ⟨wb,0,none⟩),ns] w (rE N wb (iW s .start [x,y]) w):=by
 obtain⟨vt,vn,vw,vu,vr,vh,vk,vs⟩:=V
 have HO:=ae hO
 have gK:=eY hO
 obtain⟨b,c,rfl,hbN,hcs⟩:=hn
 have lb:b<w.heap.size:=by omega
 have lw:=hO.rows.lt
 have wK:=hO.rows.base
 have HW:Hid (∀W,Below N w W->b<W.heap.size/\ ∀(j:Nat) (h:j<[x,y].length),W.cell? ⟨b,j,none⟩=some (iv [x,y][j])):=ae (fun W hB=>⟨by have:=hB.size;omega,fun j h=>(je (hB.block b hbN)).trans (hcs j h)⟩)
 obtain⟨c0,f0,l0⟩:=af hO.blk
 have oZ:=hcs 0 (by simp)
 simp only[au] at oZ
 have n01:=hcs 1 (by simp)
 simp only[au] at n01
 have HB0:Hid (Below w.heap.size w w):=ae (aG _ _)
 clear hO hcs
 go_enter Tryz.func185,Tryz.ntmps185
 go_wp2_with fail
 refine zg 6 [] none [] ?_
 simp only[zt]
 repeat ((first|refine zd ?_|refine zk ?_);simp only[zp])
 intro W1 hE hF
 have HB1:=ae (aW HB0.o hE.below)
 clear hE hF c0 f0 oZ n01
 obtain⟨c1,f1,l1⟩:=af ((HB1.o.block _ lw).trans HO.o.blk)
 obtain⟨wW,hcs1⟩:=HW.o W1 (HB1.o.mono gK)
 have n10:=hcs1 0 (by simp)
 simp only[au] at n10
 have n11:=hcs1 1 (by simp)
 simp only[au] at n11
 clear hcs1
 go_wp2_with fail
 refine(Ap _ _ _ _ _ (by omega)).mono ?_
 rintro e W2 ⟨hb,⟨hc,rfl⟩|⟨hc,rfl⟩⟩
 rotate_left
 ·simp at hc
  simp only[iW,bZ,cu,dG]
  (repeat (first|rw[aF (by omega)]|rw[ak (by omega)]))
  exact⟨rfl,(aW HB1.o hb).mono gK,.inr ⟨by simp,rfl⟩⟩
 simp at hc
 have HB2:=ae (aW HB1.o hb)
 have jS:=ae hc
 clear hb hc c1 f1 wW n10 n11
 obtain⟨c2,f2,l2⟩:=af ((HB2.o.block _ lw).trans HO.o.blk)
 obtain⟨xW,hcs2⟩:=HW.o W2 (HB2.o.mono gK)
 have n20:=hcs2 0 (by simp)
 simp only[au] at n20
 have n21:=hcs2 1 (by simp)
 simp only[au] at n21
 clear hcs2
 go_wp2_with fail
 refine zg 8 [] none [] ?_
 simp only[zt]
 repeat ((first|refine zd ?_|refine zk ?_);simp only[zp])
 intro W3 hE hF
 have HB3:=ae (aW HB2.o hE.below)
 clear hE hF c2 f2 xW n20 n21
 obtain⟨c3,f3,l3⟩:=af ((HB3.o.block _ lw).trans HO.o.blk)
 obtain⟨Kv,hcs3⟩:=HW.o W3 (HB3.o.mono gK)
 have n30:=hcs3 0 (by simp)
 simp only[au] at n30
 have n31:=hcs3 1 (by simp)
 simp only[au] at n31
 clear hcs3
 go_wp2_with fail
 go_end0
 have q0:=jS.o
 simp only[iW,bZ,cu,dG]
 (repeat (first|rw[aF (by omega)]|rw[ak (by omega)]))
 have AU:=HO.o.below HB3.o
 exact⟨(((HB3.o.mono gK).setCell wK _).setCell wK _),.inl ⟨rfl,rfl,_,es,AU.store ((gI).trans gI) (aJ (aJ (AU.blk) _) _) rfl rfl⟩⟩
theorem jV.put {N:Nat} {w W:World} {wb:Nat} {s s':jr} {V V':SV} {es es':List KE} (h:jV N w wb s V es) {i:Nat} {r:Row} (hr:(iP s V es)[i]? =some r) (r':Row) {Ms:List Nat} (hE:Ext Ms w W) (hM: ∀m∈Ms,r.v.ownBlock=some m)
 (ho:W.ownsRow N r'.t r'.size r'.v r'.n r'.xs) (hb:r'.v.ownBlock=r.v.ownBlock∨ ∃k,r'.v.ownBlock=some k/\w.heap.size<=k) {off:Nat} {u:Value} (hblk:(W.setCell ⟨wb,off,none⟩ u).heap[wb]? =some (.cells (bY s' V') 212 (0,0)))
 (hrows:iP s' V' es'=(iP s V es).set i r') (hes:es'.map (·.2)=s'.dn.aT):jV N (W.setCell ⟨wb,off,none⟩ u) wb s' V' es':=by
 refine⟨hblk,?_,hes⟩
 rw[hrows]
 have h1:=h.rows.put hr r' hE (fun m hm=> .inr (.inr (hM m hm))) ho (hb.imp id .inr)
 exact h1.keep gI (fun m hm=> .inl (by simpa using hm))
theorem aU {w:World} {base:Nat} {e:TypeId} {size:Nat} {v:Value} {n:Nat} {xs:List Value} (h:w.ownsRow base e size v n xs): ∃o c,v= .slice o n c:=by
 obtain⟨h1,⟨rfl,rfl⟩|⟨g,c,cs,rfl,h3⟩⟩:=h
 ·exact⟨none,0,rfl⟩
 ·exact⟨_,_,rfl⟩
theorem Gz (x y z:Int): ∀u∈[iv x,iv y,iv z],u.oneCell'=true:=by simp[Value.oneCell']
theorem OX (x y z p q:Int): ∀u∈[iv x,iv y,iv z,iv p,iv q],u.oneCell'=true:=by simp[Value.oneCell']
theorem acf (x y z:Int): ∀u∈[Value.bool true,iv x,iv y,iv z],u.oneCell'=true:=by simp[Value.oneCell']
theorem ZL (x y:Int): ∀u∈[iv x,iv y],u.oneCell'=true:=by simp[Value.oneCell']
theorem one_one (x:Int): ∀u∈[iv x],u.oneCell'=true:=by simp[Value.oneCell']
theorem Zm:iU Tryz.prog 27 118 (.agg #[iv 0,iv 0,iv 0,iv 0,iv 0]) 5 40:=⟨Tryz.underlying27,by kernel_rfl,rfl,by omega⟩
theorem ab5:iU Tryz.prog 31 120 (.agg #[iv 0,iv 0,iv 0]) 3 24:=⟨Tryz.underlying31,by kernel_rfl,rfl,by omega⟩
theorem agf:iU Tryz.prog 40 112 (rv (0,0)) 2 16:=⟨Tryz.underlying40,by kernel_rfl,rfl,by omega⟩
theorem agi:iU Tryz.prog 41 36 (.slice none 0 0) 1 24:=⟨Tryz.underlying41,by kernel_rfl,rfl,by omega⟩
theorem ab3:iU Tryz.prog 42 124 (.agg #[.bool false,iv 0,iv 0,iv 0]) 4 32:=⟨Tryz.underlying42,by kernel_rfl,rfl,by omega⟩
theorem ab4:iU Tryz.prog 37 122 (.agg #[iv 0,iv 0,iv 0]) 3 24:=⟨Tryz.underlying37,by kernel_rfl,rfl,by omega⟩
theorem aab (N:Nat) (w:World) (wb:Nat) (s:jr) (V:SV) (es:List KE) (ns:Value) (x y z:Int) (hO:jV N w wb s V es) (hn:rW N w ns [x,y,z]) (hG:gU s):Calls Tryz.prog 189 #[.pointer (some ⟨wb,0,none⟩),ns] w (rE N wb (iW s .Au [x,y,z]) w):=by
 obtain⟨vt,vn,vw,vu,vr,vh,vk,vs⟩:=V
 obtain⟨o,cc,rfl⟩: ∃o c,vr= .slice o s.heap.readings.length c:=aU (n:=s.heap.readings.length) (hO.rows.own 4 _ rfl)
 have HO:=ae hO
 have gK:=eY hO
 obtain⟨b,c,rfl,hbN,hcs⟩:=hn
 have lb:b<w.heap.size:=by omega
 have lw:=hO.rows.lt
 have wK:=hO.rows.base
 have HW:Hid (∀W,Below N w W->b<W.heap.size/\ ∀(j:Nat) (h:j<[x,y,z].length),W.cell? ⟨b,j,none⟩=some (iv [x,y,z][j])):=ae (fun W hB=>⟨by have:=hB.size;omega,fun j h=>(je (hB.block b hbN)).trans (hcs j h)⟩)
 obtain⟨c0,f0,l0⟩:=af hO.blk
 have oZ:=hcs 0 (by simp)
 simp only[au] at oZ
 have n01:=hcs 1 (by simp)
 simp only[au] at n01
 have n02:=hcs 2 (by simp)
 simp only[au] at n02
 have HB0:Hid (Below w.heap.size w w):=ae (aG _ _)
 have hl4:=hG.heap.1
 have MV:=hG.reads
 clear hO hcs hG
 go_enter Tryz.func189,Tryz.ntmps189
 go_wp2_with fail
 refine(yG x wb s _ w ((HB0.o.block _ lw).trans HO.o.blk) hl4).mono ?_
 rintro e W1 ⟨hb,⟨hc,rfl⟩|⟨hc,rfl⟩⟩
 rotate_left
 ·simp at hc
  simp only[iW,bZ,cu,dG]
  (repeat (first|rw[aF (by omega)]|rw[ak (by omega)]))
  exact⟨rfl,(aW HB0.o hb).mono gK,.inr ⟨by simp,rfl⟩⟩
 simp at hc
 have HB1:=ae (aW HB0.o hb)
 have jS:=ae hc
 clear hb hc c0 f0 oZ n01 n02
 obtain⟨c1,f1,l1⟩:=af ((HB1.o.block _ lw).trans HO.o.blk)
 obtain⟨wW,hcs1⟩:=HW.o W1 (HB1.o.mono gK)
 have n10:=hcs1 0 (by simp)
 simp only[au] at n10
 have n11:=hcs1 1 (by simp)
 simp only[au] at n11
 have n12:=hcs1 2 (by simp)
 simp only[au] at n12
 clear hcs1
 go_wp2_with fail
 refine zg 8 [] none [] ?_
 simp only[zt]
 repeat ((first|refine zd ?_|refine zk ?_);simp only[zp])
 intro W2 hE hF
 have HB2:=ae (aW HB1.o hE.below)
 clear hE hF c1 f1 wW n10 n11 n12
 obtain⟨c2,f2,l2⟩:=af ((HB2.o.block _ lw).trans HO.o.blk)
 obtain⟨xW,hcs2⟩:=HW.o W2 (HB2.o.mono gK)
 have n20:=hcs2 0 (by simp)
 simp only[au] at n20
 have n21:=hcs2 1 (by simp)
 simp only[au] at n21
 have n22:=hcs2 2 (by simp)
 simp only[au] at n22
 clear hcs2
 go_wp2_with fail
 refine(eG 2 [decide (1000<y),decide (50<z)] W2 (by simp) _ (by simp[dL]) _ _ rfl).mono ?_
 rintro e W3 ⟨hb,⟨hc,rfl⟩|⟨hc,rfl⟩⟩
 rotate_left
 ·simp at hc
  have q0:=jS.o
  simp only[iW,bZ,cu,dG]
  (repeat (first|rw[aF (by omega)]|rw[ak (by omega)]))
  exact⟨rfl,(aW HB2.o hb).mono gK,.inr ⟨by simp,rfl⟩⟩
 simp at hc
 have HB3:=ae (aW HB2.o hb)
 have rF:=ae hc
 clear hb hc c2 f2 xW n20 n21 n22
 obtain⟨c3,f3,l3⟩:=af ((HB3.o.block _ lw).trans HO.o.blk)
 obtain⟨Kv,hcs3⟩:=HW.o W3 (HB3.o.mono gK)
 have n30:=hcs3 0 (by simp)
 simp only[au] at n30
 have n31:=hcs3 1 (by simp)
 simp only[au] at n31
 have n32:=hcs3 2 (by simp)
 simp only[au] at n32
 clear hcs3
 go_wp2_with fail
 refine(qO _ _ _).mono ?_
 rintro e W4 ⟨hb,⟨hc,rfl⟩|⟨hc,rfl⟩⟩
 rotate_left
 ·simp at hc
  have q0:=jS.o
  have q1:=rF.o
  simp only[iW,bZ,cu,dG]
  (repeat (first|rw[aF (by omega)]|rw[ak (by omega)]))
  exact⟨rfl,(aW HB3.o hb).mono gK,.inr ⟨by simp,rfl⟩⟩
 simp at hc
 have HB4:=ae (aW HB3.o hb)
 have xK:=ae hc
 clear hb hc c3 f3 Kv n30 n31 n32
 obtain⟨c4,f4,l4⟩:=af ((HB4.o.block _ lw).trans HO.o.blk)
 obtain⟨Ku,kD⟩:=HW.o W4 (HB4.o.mono gK)
 have n40:=kD 0 (by simp)
 simp only[au] at n40
 have n41:=kD 1 (by simp)
 simp only[au] at n41
 have n42:=kD 2 (by simp)
 simp only[au] at n42
 clear kD
 go_wp2_with fail
 obtain⟨Ms,hMs⟩: ∃Ms,Ms=(Value.slice o s.heap.readings.length cc).ownBlock.toList:=⟨_,rfl⟩
 have hO4:=HO.o.below HB4.o
 have hm1:wb∉Ms:=fun h=>hO4.rows.off 4 _ rfl (by rw[hMs] at h;exact dK.1 h)
 have hm2:b∉Ms:=fun h=>by have:=((hO4.rows.own 4 _ rfl).lt b (by rw[hMs] at h;exact dK.1 h)).1;omega
 have xI: ∀m∈Ms,m<W4.heap.size:=fun m h=>((hO4.rows.own 4 _ rfl).lt m (by rw[hMs] at h;exact dK.1 h)).2
 have HM:=ae hMs
 have jA:=ae hO4
 clear hMs hO4
 refine zg 19 Ms (some 18) [(17,Spec.slice W4.heap.size #[iv x,iv y,iv z] 122 1),(18,⟨fun _ v=> ∃o2 c2,v= .slice o2 (s.heap.readings.length+1) c2,fun _ v Wx=>Wx.ownsRow N 122 3 v (s.heap.readings.length+1) (aY s.heap.readings++[iv x,iv y,iv z])/\(v.ownBlock=(Value.slice o s.heap.readings.length cc).ownBlock∨ ∃q,v.ownBlock=some q/\W4.heap.size<=q)⟩)] ?_
 simp only[zt]
 repeat ((first|refine zd ?_|refine zk ?_);simp only[zp])
 refine eH W4.heap.size _ _ 1 (by rfl) (ai _) (by rfl) xI (by simp) (fun W hW=>by go_simp;try rfl) (fun b6=>?_)
 simp only[zp]
 repeat ((first|refine zd ?_|refine zk ?_);simp only[zp])
 refine bK _ (by rfl) (by rfl) (by exact⟨.slice none (s.heap.readings.length+1) 0,none,0,rfl⟩) (fun W6 hE hF=>?_) (fun v Wa Wb ho hE=>?_) (fun v hv=>?_)
 ·have hE':Ext [] W4 W6:=hE
  obtain⟨b',hb',hge,hcc⟩:=hF _ (bI _) (by kernel_rfl)
  cases hb'
  have hown6:W6.ownsRow N 122 3 (.slice o s.heap.readings.length cc) s.heap.readings.length (aY s.heap.readings):=aB (Ms:=[]) (jA.o.rows.own 4 _ rfl) hE' (by simp)
  have hsrc:aN 3 W6 (.slice (some ⟨b6,0,none⟩) 1 1) 1 ([iv x,iv y,iv z]):=aN.dw 3 1 hcc rfl (by decide)
  refine Does.mono (dU ab4 (by rfl) (by rfl) hown6 (by rfl) hsrc (Gz x y z) (by omega) (by omega) (by have:=hE'.size;have:=HB4.o.size;omega)) ?_
  rintro v' W7 ⟨ho,hgr,hcase⟩
  refine⟨aU ho,⟨ho,?_⟩,⟨hgr.os,hgr.tape,hgr.output,hgr.size,fun b hb hn=>hgr.block b hb (fun e=>hn (by rw[HM.o];exact dK.2 e.symm))⟩⟩
  rcases hcase with h1|h1
  ·exact .inl h1
  ·exact .inr ⟨_,h1,hE'.size⟩
 ·exact⟨aB (Ms:=[]) ho.1 hE (by simp),ho.2⟩
 obtain⟨o7,c7,rfl⟩:=hv
 simp only[zp]
 intro W5 hE hF
 obtain⟨qK,AO⟩:=hF _ (bI _)
 have iq:Ext Ms W4 W5:=hE
 have hbl:=(iq.block wb jA.o.rows.lt hm1).trans jA.o.blk
 obtain⟨c5,f5,l5⟩:=af hbl
 have iZ:=ae (ag iq (ag qK (ag AO hbl)))
 have E5:Below N w W5:=(HB4.o.mono gK).trans ⟨iq.os,iq.tape,iq.output,iq.size,fun k hk=>iq.block k (by have:=HB4.o.size;omega) (fun h=>by have:=((jA.o.rows.own 4 _ rfl).lt k (by rw[HM.o] at h;exact dK.1 h)).1;omega)⟩
 have qc:=ae E5
 clear hE hF iq qK AO hbl E5 hm1 hm2 xI c4 f4 Ku n40 n41 n42
 go_wp2_with fail
 go_end0
 have q0:=jS.o
 have q1:=rF.o
 have q2:=xK.o
 simp only[iW,bZ,cu,dG]
 (repeat (first|rw[aF (by omega)]|rw[ak (by omega)]))
 refine⟨qc.o.setCell wK _,.inl ⟨rfl,rfl,⟨vt,vn,vw,vu,.slice o7 (s.heap.readings.length+1) c7,vh,vk,vs⟩,es,jA.o.put (i:=4) rfl ⟨122,3,.slice o7 (s.heap.readings.length+1) c7,s.heap.readings.length+1,aY s.heap.readings++[iv x,iv y,iv z]⟩ iZ.o.1 (fun m hm=>by rw[HM.o] at hm;exact dK.1 hm) iZ.o.2.1 iZ.o.2.2.1 (aJ iZ.o.2.2.2 _) (by simp[iP,iK,aY]) (jA.o.es)⟩⟩
theorem note_any (N:Nat) (w:World) (wb:Nat) (s:jr) (V:SV) (es:List KE) (ns:Value) (x y z:Int) (hO:jV N w wb s V es) (hn:rW N w ns [x,y,z]) (hG:gU s):Calls Tryz.prog 183 #[.pointer (some ⟨wb,0,none⟩),ns] w (rE N wb (iW s .note [x,y,z]) w):=by
 obtain⟨vt,vn,vw,vu,vr,vh,vk,vs⟩:=V
 obtain⟨o,cc,rfl⟩: ∃o c,vn= .slice o s.led.notes.length c:=aU (n:=s.led.notes.length) (hO.rows.own 1 _ rfl)
 have HO:=ae hO
 have gK:=eY hO
 obtain⟨b,c,rfl,hbN,hcs⟩:=hn
 have lb:b<w.heap.size:=by omega
 have lw:=hO.rows.lt
 have wK:=hO.rows.base
 have HW:Hid (∀W,Below N w W->b<W.heap.size/\ ∀(j:Nat) (h:j<[x,y,z].length),W.cell? ⟨b,j,none⟩=some (iv [x,y,z][j])):=ae (fun W hB=>⟨by have:=hB.size;omega,fun j h=>(je (hB.block b hbN)).trans (hcs j h)⟩)
 obtain⟨c0,f0,l0⟩:=af hO.blk
 have oZ:=hcs 0 (by simp)
 simp only[au] at oZ
 have n01:=hcs 1 (by simp)
 simp only[au] at n01
 have n02:=hcs 2 (by simp)
 simp only[au] at n02
 have HB0:Hid (Below w.heap.size w w):=ae (aG _ _)
 have MV:=hG.notes
 have hwe:=hG.aO
 clear hO hcs hG
 go_enter Tryz.func183,Tryz.ntmps183
 go_wp2_with fail
 refine zg 10 [] none [] ?_
 simp only[zt]
 repeat ((first|refine zd ?_|refine zk ?_);simp only[zp])
 intro W1 hE hF
 have HB1:=ae (aW HB0.o hE.below)
 clear hE hF c0 f0 oZ n01 n02
 obtain⟨c1,f1,l1⟩:=af ((HB1.o.block _ lw).trans HO.o.blk)
 obtain⟨wW,hcs1⟩:=HW.o W1 (HB1.o.mono gK)
 have n10:=hcs1 0 (by simp)
 simp only[au] at n10
 have n11:=hcs1 1 (by simp)
 simp only[au] at n11
 have n12:=hcs1 2 (by simp)
 simp only[au] at n12
 clear hcs1
 go_wp2_with fail
 refine(jg _ _ _).mono ?_
 rintro e W2 ⟨hb,⟨hc,rfl⟩|⟨hc,rfl⟩⟩
 rotate_left
 ·simp at hc
  simp only[iW,bZ,cu,dG]
  (repeat (first|rw[aF (by omega)]|rw[ak (by omega)]))
  exact⟨rfl,(aW HB1.o hb).mono gK,.inr ⟨by simp,rfl⟩⟩
 simp at hc
 have HB2:=ae (aW HB1.o hb)
 have HS2:=ae hb
 have jS:=ae hc
 clear hb hc c1 f1 wW n10 n11 n12
 obtain⟨c2,f2,l2⟩:=af ((HB2.o.block _ lw).trans HO.o.blk)
 obtain⟨xW,hcs2⟩:=HW.o W2 (HB2.o.mono gK)
 have n20:=hcs2 0 (by simp)
 simp only[au] at n20
 have n21:=hcs2 1 (by simp)
 simp only[au] at n21
 have n22:=hcs2 2 (by simp)
 simp only[au] at n22
 clear hcs2
 go_wp2_with fail
 refine RX.gG (fun ps W'=> ¬(y<=z/\z<=2000)/\ps=kH 2/\Below N w W') 12 [] none [(9,⟨fun _ v=>v=rv (y,z),fun _ _ _=>(y<=z/\z<=2000)⟩),(11,Spec.block W2.heap.size #[iv 0,iv 0,iv 0] 120)] (by rintro ps a1 Wx hdf ⟨h1,rfl,h3⟩;refine⟨hdf,wO (c:=2) h3 ?_ (by decide)⟩;have q0:=jS.o;simp only[iW,bZ,cu,dG];(repeat (first|rw[aF (by omega)]|rw[ak (by omega)]))) (by as_aux_lemma=>kernel_rfl) (by as_aux_lemma=>kernel_rfl) ?_
 simp only[zt]
 repeat (refine RX.zd ?_;simp only[zp])
 refine RX.bK _ (by rfl) (by rfl) ⟨_,rfl⟩ (fun Wq hE2 hF2=>?_) (fun v Wa Wb ho hE=>ho) (fun v hv=>?_)
 ·have hE':Ext [] W2 Wq:=hE2
  refine RX.dF 253 #[iv y,iv z] (by go_simp;try rfl) ?_
  refine(vX y z Wq).mono ?_
  rintro e w' ⟨hb,⟨hc,rfl⟩|⟨hc,rfl⟩⟩
  ·exact .inl ⟨_,rfl,rfl,hc,Ext.aA hb⟩
  ·exact .inr ⟨_,rfl,hc,rfl,(aW HB2.o (aW hE'.below hb)).mono gK⟩
 obtain rfl:v=rv (y,z):=hv
 simp only[zp]
 repeat (refine RX.zd ?_;simp only[zp])
 refine RX.jX W2.heap.size _ _ (by rfl) (ai _) (by rfl) (by simp) (by simp) (fun W hW=>by go_simp;try rfl) (fun b9=>?_)
 simp only[zp]
 intro Wb hE hF
 obtain⟨b9',wZ,hge,hk9⟩:=hF _ (bI _)
 cases wZ
 have hc:y<=z/\z<=2000:=hF _ (nS _ (bI _))
 have HBb:=ae (aW HB2.o (show Ext [] W2 Wb from hE).below)
 have rF:=ae hc
 have qV:=ae (ag (ji HB2.o.size hge) hk9)
 obtain⟨c9,f9,l9⟩:=af hk9
 clear hE hF hc hge hk9 c2 f2 xW n20 n21 n22
 go_upto_region 2 with(fail)
 refine dI fun W3 qp=>?_
 have HB3:=ae (show Below w.heap.size w W3 from by rw[qp];exact(((HBb.o).setCell qV.o.1 _).setCell qV.o.1 _).setCell qV.o.1 _)
 have Ei:=ae (show W3.heap[b9]? =some (.cells #[iv x,iv y,iv z] 120 (0,0)) from by rw[qp];exact aJ (aJ (aJ (qV.o.2) _) _) _)
 have ZW:b9<W3.heap.size:=(aV.1 Ei.o).1
 clear qp c9 f9 l9
 obtain⟨c3,f3,l3⟩:=af ((HB3.o.block _ lw).trans HO.o.blk)
 obtain⟨Kv,hcs3⟩:=HW.o W3 (HB3.o.mono gK)
 have n30:=hcs3 0 (by simp)
 simp only[au] at n30
 have n31:=hcs3 1 (by simp)
 simp only[au] at n31
 have n32:=hcs3 2 (by simp)
 simp only[au] at n32
 clear hcs3
 go_wp2_with fail
 refine(qO _ _ _).mono ?_
 rintro e W4 ⟨hb,⟨hc,rfl⟩|⟨hc,rfl⟩⟩
 rotate_left
 ·simp at hc
  have q0:=jS.o
  have q1:=rF.o
  simp only[iW,bZ,cu,dG]
  (repeat (first|rw[aF (by omega)]|rw[ak (by omega)]))
  exact⟨rfl,(aW HB3.o hb).mono gK,.inr ⟨by simp,rfl⟩⟩
 simp at hc
 have HB4:=ae (aW HB3.o hb)
 have Rk:=ae hb
 have xK:=ae hc
 clear hb hc c3 f3 Kv n30 n31 n32
 obtain⟨c4,f4,l4⟩:=af ((HB4.o.block _ lw).trans HO.o.blk)
 obtain⟨Ku,kD⟩:=HW.o W4 (HB4.o.mono gK)
 have n40:=kD 0 (by simp)
 simp only[au] at n40
 have n41:=kD 1 (by simp)
 simp only[au] at n41
 have n42:=kD 2 (by simp)
 simp only[au] at n42
 clear kD
 go_wp2_with fail
 obtain⟨Ms,hMs⟩: ∃Ms,Ms=(Value.slice o s.led.notes.length cc).ownBlock.toList:=⟨_,rfl⟩
 have hO4:=HO.o.below HB4.o
 have hm1:wb∉Ms:=fun h=>hO4.rows.off 1 _ rfl (by rw[hMs] at h;exact dK.1 h)
 have hm2:b∉Ms:=fun h=>by have:=((hO4.rows.own 1 _ rfl).lt b (by rw[hMs] at h;exact dK.1 h)).1;omega
 have xI: ∀m∈Ms,m<W4.heap.size:=fun m h=>((hO4.rows.own 1 _ rfl).lt m (by rw[hMs] at h;exact dK.1 h)).2
 obtain⟨c9,f9,l9⟩:=af ((Rk.o.block _ ZW).trans Ei.o)
 have hm9:b9∉Ms:=fun h=>by have:=((HO.o.rows.own 1 _ rfl).lt b9 (by rw[hMs] at h;exact dK.1 h)).2;have:=qV.o.1;omega
 have HM:=ae hMs
 have jA:=ae hO4
 clear hMs hO4
 refine zg 10 Ms (some 9) [(8,Spec.slice W4.heap.size #[iv x,iv y,iv z] 120 1),(9,⟨fun _ v=> ∃o2 c2,v= .slice o2 (s.led.notes.length+1) c2,fun _ v Wx=>Wx.ownsRow N 120 3 v (s.led.notes.length+1) (aY s.led.notes++[iv x,iv y,iv z])/\(v.ownBlock=(Value.slice o s.led.notes.length cc).ownBlock∨ ∃q,v.ownBlock=some q/\W4.heap.size<=q)⟩)] ?_
 simp only[zt]
 repeat ((first|refine zd ?_|refine zk ?_);simp only[zp])
 refine eH W4.heap.size _ _ 1 (by rfl) (ai _) (by rfl) xI (by simp) (fun W hW=>by go_simp;try rfl) (fun b6=>?_)
 simp only[zp]
 repeat ((first|refine zd ?_|refine zk ?_);simp only[zp])
 refine bK _ (by rfl) (by rfl) (by exact⟨.slice none (s.led.notes.length+1) 0,none,0,rfl⟩) (fun W6 hE hF=>?_) (fun v Wa Wb ho hE=>?_) (fun v hv=>?_)
 ·have hE':Ext [] W4 W6:=hE
  obtain⟨b',hb',hge,hcc⟩:=hF _ (bI _) (by kernel_rfl)
  cases hb'
  have hown6:W6.ownsRow N 120 3 (.slice o s.led.notes.length cc) s.led.notes.length (aY s.led.notes):=aB (Ms:=[]) (jA.o.rows.own 1 _ rfl) hE' (by simp)
  have hsrc:aN 3 W6 (.slice (some ⟨b6,0,none⟩) 1 1) 1 ([iv x,iv y,iv z]):=aN.dw 3 1 hcc rfl (by decide)
  refine Does.mono (dU ab5 (by rfl) (by rfl) hown6 (by rfl) hsrc (Gz x y z) (by omega) (by omega) (by have:=hE'.size;have:=HB4.o.size;omega)) ?_
  rintro v' W7 ⟨ho,hgr,hcase⟩
  refine⟨aU ho,⟨ho,?_⟩,⟨hgr.os,hgr.tape,hgr.output,hgr.size,fun b hb hn=>hgr.block b hb (fun e=>hn (by rw[HM.o];exact dK.2 e.symm))⟩⟩
  rcases hcase with h1|h1
  ·exact .inl h1
  ·exact .inr ⟨_,h1,hE'.size⟩
 ·exact⟨aB (Ms:=[]) ho.1 hE (by simp),ho.2⟩
 obtain⟨o7,c7,rfl⟩:=hv
 simp only[zp]
 intro W5 hE hF
 obtain⟨qK,AO⟩:=hF _ (bI _)
 have iq:Ext Ms W4 W5:=hE
 have hbl:=(iq.block wb jA.o.rows.lt hm1).trans jA.o.blk
 obtain⟨c5,f5,l5⟩:=af hbl
 have iZ:=ae (ag iq (ag qK (ag AO hbl)))
 have E5:Below N w W5:=(HB4.o.mono gK).trans ⟨iq.os,iq.tape,iq.output,iq.size,fun k hk=>iq.block k (by have:=HB4.o.size;omega) (fun h=>by have:=((jA.o.rows.own 1 _ rfl).lt k (by rw[HM.o] at h;exact dK.1 h)).1;omega)⟩
 have qc:=ae E5
 clear hE hF iq qK AO hbl E5 hm1 hm2 xI c4 f4 Ku n40 n41 n42
 go_wp2_with fail
 go_end0
 have q0:=jS.o
 have q1:=rF.o
 have q2:=xK.o
 simp only[iW,bZ,cu,dG]
 (repeat (first|rw[aF (by omega)]|rw[ak (by omega)]))
 refine⟨qc.o.setCell wK _,.inl ⟨rfl,rfl,⟨vt,.slice o7 (s.led.notes.length+1) c7,vw,vu,vr,vh,vk,vs⟩,es,jA.o.put (i:=1) rfl ⟨120,3,.slice o7 (s.led.notes.length+1) c7,s.led.notes.length+1,aY s.led.notes++[iv x,iv y,iv z]⟩ iZ.o.1 (fun m hm=>by rw[HM.o] at hm;exact dK.1 hm) iZ.o.2.1 iZ.o.2.2.1 (aJ iZ.o.2.2.2 _) (by simp[iP,nH,aY]) (jA.o.es)⟩⟩
theorem LJ (N:Nat) (w:World) (wb:Nat) (s:jr) (V:SV) (es:List KE) (ns:Value) (x y z p q:Int) (hO:jV N w wb s V es) (hn:rW N w ns [x,y,z,p,q]) (hG:gU s) (hyz:y<z):Calls Tryz.prog 178 #[.pointer (some ⟨wb,0,none⟩),ns] w (rE N wb (iW s .tally [x,y,z,p,q]) w):=by
 obtain⟨vt,vn,vw,vu,vr,vh,vk,vs⟩:=V
 obtain⟨o,cc,rfl⟩: ∃o c,vt= .slice o s.led.field.az.length c:=aU (n:=s.led.field.az.length) (hO.rows.own 0 _ rfl)
 have HO:=ae hO
 have gK:=eY hO
 obtain⟨b,c,rfl,hbN,hcs⟩:=hn
 have lb:b<w.heap.size:=by omega
 have lw:=hO.rows.lt
 have wK:=hO.rows.base
 have HW:Hid (∀W,Below N w W->b<W.heap.size/\ ∀(j:Nat) (h:j<[x,y,z,p,q].length),W.cell? ⟨b,j,none⟩=some (iv [x,y,z,p,q][j])):=ae (fun W hB=>⟨by have:=hB.size;omega,fun j h=>(je (hB.block b hbN)).trans (hcs j h)⟩)
 obtain⟨c0,f0,l0⟩:=af hO.blk
 have oZ:=hcs 0 (by simp)
 simp only[au] at oZ
 have n01:=hcs 1 (by simp)
 simp only[au] at n01
 have n02:=hcs 2 (by simp)
 simp only[au] at n02
 have n03:=hcs 3 (by simp)
 simp only[au] at n03
 have n04:=hcs 4 (by simp)
 simp only[au] at n04
 have HB0:Hid (Below w.heap.size w w):=ae (aG _ _)
 have MV:=hG.FI
 have hwe:=hG.aO
 have jS:=ae hyz
 clear hO hcs hG
 go_enter Tryz.func178,Tryz.ntmps178
 go_wp2_with fail
 refine zg 7 [] none [] ?_
 simp only[zt]
 repeat ((first|refine zd ?_|refine zk ?_);simp only[zp])
 intro W1 hE hF
 have HB1:=ae (aW HB0.o hE.below)
 clear hE hF c0 f0 oZ n01 n02 n03 n04
 obtain⟨c1,f1,l1⟩:=af ((HB1.o.block _ lw).trans HO.o.blk)
 obtain⟨wW,hcs1⟩:=HW.o W1 (HB1.o.mono gK)
 have n10:=hcs1 0 (by simp)
 simp only[au] at n10
 have n11:=hcs1 1 (by simp)
 simp only[au] at n11
 have n12:=hcs1 2 (by simp)
 simp only[au] at n12
 have n13:=hcs1 3 (by simp)
 simp only[au] at n13
 have n14:=hcs1 4 (by simp)
 simp only[au] at n14
 clear hcs1
 go_wp2_with fail
 refine(jg _ _ _).mono ?_
 rintro e W2 ⟨hb,⟨hc,rfl⟩|⟨hc,rfl⟩⟩
 rotate_left
 ·simp at hc
  have q0:=jS.o
  simp only[iW,bZ,cu,dG]
  (repeat (first|rw[aF (by omega)]|rw[ak (by omega)]))
  exact⟨rfl,(aW HB1.o hb).mono gK,.inr ⟨by simp,rfl⟩⟩
 simp at hc
 have HB2:=ae (aW HB1.o hb)
 have HS2:=ae hb
 have rF:=ae hc
 clear hb hc c1 f1 wW n10 n11 n12 n13 n14
 obtain⟨c2,f2,l2⟩:=af ((HB2.o.block _ lw).trans HO.o.blk)
 obtain⟨xW,hcs2⟩:=HW.o W2 (HB2.o.mono gK)
 have n20:=hcs2 0 (by simp)
 simp only[au] at n20
 have n21:=hcs2 1 (by simp)
 simp only[au] at n21
 have n22:=hcs2 2 (by simp)
 simp only[au] at n22
 have n23:=hcs2 3 (by simp)
 simp only[au] at n23
 have n24:=hcs2 4 (by simp)
 simp only[au] at n24
 clear hcs2
 go_wp2_with fail
 refine zg 11 [] none [] ?_
 simp only[zt]
 repeat ((first|refine zd ?_|refine zk ?_);simp only[zp])
 intro W3 hE hF
 have HB3:=ae (aW HB2.o hE.below)
 clear hE hF c2 f2 xW n20 n21 n22 n23 n24
 obtain⟨c3,f3,l3⟩:=af ((HB3.o.block _ lw).trans HO.o.blk)
 obtain⟨Kv,hcs3⟩:=HW.o W3 (HB3.o.mono gK)
 have n30:=hcs3 0 (by simp)
 simp only[au] at n30
 have n31:=hcs3 1 (by simp)
 simp only[au] at n31
 have n32:=hcs3 2 (by simp)
 simp only[au] at n32
 have n33:=hcs3 3 (by simp)
 simp only[au] at n33
 have n34:=hcs3 4 (by simp)
 simp only[au] at n34
 clear hcs3
 go_wp2_with fail
 clear hyz
 refine(jg _ _ _).mono ?_
 rintro e W4 ⟨hb,⟨hc,rfl⟩|⟨hc,rfl⟩⟩
 rotate_left
 ·simp at hc
  have q0:=jS.o
  have q1:=rF.o
  simp only[iW,bZ,cu,dG]
  (repeat (first|rw[aF (by omega)]|rw[ak (by omega)]))
  exact⟨rfl,(aW HB3.o hb).mono gK,.inr ⟨by simp,rfl⟩⟩
 simp at hc
 have HB4:=ae (aW HB3.o hb)
 have Rk:=ae hb
 have xK:=ae hc
 clear hb hc c3 f3 Kv n30 n31 n32 n33 n34
 obtain⟨c4,f4,l4⟩:=af ((HB4.o.block _ lw).trans HO.o.blk)
 obtain⟨Ku,kD⟩:=HW.o W4 (HB4.o.mono gK)
 have n40:=kD 0 (by simp)
 simp only[au] at n40
 have n41:=kD 1 (by simp)
 simp only[au] at n41
 have n42:=kD 2 (by simp)
 simp only[au] at n42
 have n43:=kD 3 (by simp)
 simp only[au] at n43
 have n44:=kD 4 (by simp)
 simp only[au] at n44
 clear kD
 go_wp2_with fail
 refine zg 6 [] none [] ?_
 simp only[zt]
 repeat ((first|refine zd ?_|refine zk ?_);simp only[zp])
 intro W5 hE hF
 have nM:=ae (aW HB4.o hE.below)
 clear hE hF c4 f4 Ku n40 n41 n42 n43 n44
 obtain⟨c5,f5,l5⟩:=af ((nM.o.block _ lw).trans HO.o.blk)
 obtain⟨Pj,uI⟩:=HW.o W5 (nM.o.mono gK)
 have n50:=uI 0 (by simp)
 simp only[au] at n50
 have n51:=uI 1 (by simp)
 simp only[au] at n51
 have n52:=uI 2 (by simp)
 simp only[au] at n52
 have n53:=uI 3 (by simp)
 simp only[au] at n53
 have n54:=uI 4 (by simp)
 simp only[au] at n54
 clear uI
 go_wp2_with fail
 refine(eG 2 [decide (z<y)] W5 (by simp) _ (by simp[dL]) _ _ rfl).mono ?_
 rintro e W6 ⟨hb,⟨hc,rfl⟩|⟨hc,rfl⟩⟩
 rotate_left
 ·simp at hc
  have q0:=jS.o
  have q1:=rF.o
  have q2:=xK.o
  (exfalso;omega)
 simp at hc
 have nK:=ae (aW nM.o hb)
 have HS6:=ae hb
 have IZ:=ae hc
 clear hb hc c5 f5 Pj n50 n51 n52 n53 n54
 obtain⟨c6,f6,l6⟩:=af ((nK.o.block _ lw).trans HO.o.blk)
 obtain⟨lb6,uH⟩:=HW.o W6 (nK.o.mono gK)
 have n60:=uH 0 (by simp)
 simp only[au] at n60
 have n61:=uH 1 (by simp)
 simp only[au] at n61
 have n62:=uH 2 (by simp)
 simp only[au] at n62
 have n63:=uH 3 (by simp)
 simp only[au] at n63
 have n64:=uH 4 (by simp)
 simp only[au] at n64
 clear uH
 go_wp2_with fail
 refine RX.gG (fun ps W'=> ¬(p<=q/\q<=s.led.field.rows)/\ps=kH 2/\Below N w W') 19 [] none [(16,⟨fun _ v=>v=rv (p,q),fun _ _ _=>(p<=q/\q<=s.led.field.rows)⟩),(18,Spec.block W6.heap.size #[iv 0,iv 0,iv 0,iv 0,iv 0] 118)] (by rintro ps a1 Wx hdf ⟨h1,rfl,h3⟩;refine⟨hdf,wO (c:=2) h3 ?_ (by decide)⟩;have q0:=jS.o;have q1:=rF.o;have q2:=xK.o;have q3:=IZ.o;simp only[iW,bZ,cu,dG];(repeat (first|rw[aF (by omega)]|rw[ak (by omega)]))) (by as_aux_lemma=>kernel_rfl) (by as_aux_lemma=>kernel_rfl) ?_
 simp only[zt]
 repeat (refine RX.zd ?_;simp only[zp])
 refine RX.bK _ (by rfl) (by rfl) ⟨_,rfl⟩ (fun Wq hE2 hF2=>?_) (fun v Wa Wb ho hE=>ho) (fun v hv=>?_)
 ·have hE':Ext [] W6 Wq:=hE2
  refine RX.dF 250 #[.pointer (some ⟨wb,0,none⟩),iv p,iv q] (by go_simp;try rfl) ?_
  refine(uV p q wb s _ Wq ((hE'.block _ (eu lw nK.o.size) (by simp)).trans ((nK.o.block _ lw).trans HO.o.blk))).mono ?_
  rintro e w' ⟨hb,⟨hc,rfl⟩|⟨hc,rfl⟩⟩
  ·exact .inl ⟨_,rfl,rfl,hc,Ext.aA hb⟩
  ·exact .inr ⟨_,rfl,hc,rfl,(aW nK.o (aW hE'.below hb)).mono gK⟩
 obtain rfl:v=rv (p,q):=hv
 simp only[zp]
 repeat (refine RX.zd ?_;simp only[zp])
 refine RX.jX W6.heap.size _ _ (by rfl) (ai _) (by rfl) (by simp) (by simp) (fun W hW=>by go_simp;try rfl) (fun b9=>?_)
 simp only[zp]
 intro Wb hE hF
 obtain⟨b9',wZ,hge,hk9⟩:=hF _ (bI _)
 cases wZ
 have hc:p<=q/\q<=s.led.field.rows:=hF _ (nS _ (bI _))
 have HBb:=ae (aW nK.o (show Ext [] W6 Wb from hE).below)
 have VW:=ae hc
 have qV:=ae (ag (ji nK.o.size hge) hk9)
 obtain⟨c9,f9,l9⟩:=af hk9
 clear hE hF hc hge hk9 c6 f6 lb6 n60 n61 n62 n63 n64
 go_upto_region 5 with(fail)
 refine dI fun W7 qp=>?_
 have xN:=ae (show Below w.heap.size w W7 from by rw[qp];exact(((((HBb.o).setCell qV.o.1 _).setCell qV.o.1 _).setCell qV.o.1 _).setCell qV.o.1 _).setCell qV.o.1 _)
 have Ei:=ae (show W7.heap[b9]? =some (.cells #[iv x,iv y,iv z,iv p,iv q] 118 (0,0)) from by rw[qp];exact aJ (aJ (aJ (aJ (aJ (qV.o.2) _) _) _) _) _)
 have ZW:b9<W7.heap.size:=(aV.1 Ei.o).1
 clear qp c9 f9 l9
 obtain⟨c7,f7,l7⟩:=af ((xN.o.block _ lw).trans HO.o.blk)
 obtain⟨lb7,uG⟩:=HW.o W7 (xN.o.mono gK)
 have n70:=uG 0 (by simp)
 simp only[au] at n70
 have n71:=uG 1 (by simp)
 simp only[au] at n71
 have n72:=uG 2 (by simp)
 simp only[au] at n72
 have n73:=uG 3 (by simp)
 simp only[au] at n73
 have n74:=uG 4 (by simp)
 simp only[au] at n74
 clear uG
 go_wp2_with fail
 refine(qO _ _ _).mono ?_
 rintro e W8 ⟨hb,⟨hc,rfl⟩|⟨hc,rfl⟩⟩
 rotate_left
 ·simp at hc
  have q0:=jS.o
  have q1:=rF.o
  have q2:=xK.o
  have q3:=IZ.o
  have q4:=VW.o
  simp only[iW,bZ,cu,dG]
  (repeat (first|rw[aF (by omega)]|rw[ak (by omega)]))
  exact⟨rfl,(aW xN.o hb).mono gK,.inr ⟨by simp,rfl⟩⟩
 simp at hc
 have qc:=ae (aW xN.o hb)
 have HS8:=ae hb
 have HQ5:=ae hc
 clear hb hc c7 f7 lb7 n70 n71 n72 n73 n74
 obtain⟨c8,f8,l8⟩:=af ((qc.o.block _ lw).trans HO.o.blk)
 obtain⟨lb8,D6⟩:=HW.o W8 (qc.o.mono gK)
 have n80:=D6 0 (by simp)
 simp only[au] at n80
 have n81:=D6 1 (by simp)
 simp only[au] at n81
 have n82:=D6 2 (by simp)
 simp only[au] at n82
 have n83:=D6 3 (by simp)
 simp only[au] at n83
 have n84:=D6 4 (by simp)
 simp only[au] at n84
 clear D6
 go_wp2_with fail
 obtain⟨Ms,hMs⟩: ∃Ms,Ms=(Value.slice o s.led.field.az.length cc).ownBlock.toList:=⟨_,rfl⟩
 have Hu:=HO.o.below qc.o
 have hm1:wb∉Ms:=fun h=>Hu.rows.off 0 _ rfl (by rw[hMs] at h;exact dK.1 h)
 have hm2:b∉Ms:=fun h=>by have:=((Hu.rows.own 0 _ rfl).lt b (by rw[hMs] at h;exact dK.1 h)).1;omega
 have xI: ∀m∈Ms,m<W8.heap.size:=fun m h=>((Hu.rows.own 0 _ rfl).lt m (by rw[hMs] at h;exact dK.1 h)).2
 obtain⟨c9,f9,l9⟩:=af ((HS8.o.block _ ZW).trans Ei.o)
 have hm9:b9∉Ms:=fun h=>by have:=((HO.o.rows.own 0 _ rfl).lt b9 (by rw[hMs] at h;exact dK.1 h)).2;have:=qV.o.1;omega
 have HM:=ae hMs
 have jA:=ae Hu
 clear hMs Hu
 refine zg 8 Ms (some 7) [(6,Spec.slice W8.heap.size #[iv x,iv y,iv z,iv p,iv q] 118 1),(7,⟨fun _ v=> ∃o2 c2,v= .slice o2 (s.led.field.az.length+1) c2,fun _ v Wx=>Wx.ownsRow N 118 5 v (s.led.field.az.length+1) (dS s.led.field.az++[iv x,iv y,iv z,iv p,iv q])/\(v.ownBlock=(Value.slice o s.led.field.az.length cc).ownBlock∨ ∃q,v.ownBlock=some q/\W8.heap.size<=q)⟩)] ?_
 simp only[zt]
 repeat ((first|refine zd ?_|refine zk ?_);simp only[zp])
 refine eH W8.heap.size _ _ 1 (by rfl) (ai _) (by rfl) xI (by simp) (fun W hW=>by go_simp;try rfl) (fun b6=>?_)
 simp only[zp]
 repeat ((first|refine zd ?_|refine zk ?_);simp only[zp])
 refine bK _ (by rfl) (by rfl) (by exact⟨.slice none (s.led.field.az.length+1) 0,none,0,rfl⟩) (fun W6 hE hF=>?_) (fun v Wa Wb ho hE=>?_) (fun v hv=>?_)
 ·have hE':Ext [] W8 W6:=hE
  obtain⟨b',hb',hge,hcc⟩:=hF _ (bI _) (by kernel_rfl)
  cases hb'
  have hown6:W6.ownsRow N 118 5 (.slice o s.led.field.az.length cc) s.led.field.az.length (dS s.led.field.az):=aB (Ms:=[]) (jA.o.rows.own 0 _ rfl) hE' (by simp)
  have hsrc:aN 5 W6 (.slice (some ⟨b6,0,none⟩) 1 1) 1 ([iv x,iv y,iv z,iv p,iv q]):=aN.dw 5 1 hcc rfl (by decide)
  refine Does.mono (dU Zm (by rfl) (by rfl) hown6 (by rfl) hsrc (OX x y z p q) (by omega) (by omega) (by have:=hE'.size;have:=qc.o.size;omega)) ?_
  rintro v' W7 ⟨ho,hgr,hcase⟩
  refine⟨aU ho,⟨ho,?_⟩,⟨hgr.os,hgr.tape,hgr.output,hgr.size,fun b hb hn=>hgr.block b hb (fun e=>hn (by rw[HM.o];exact dK.2 e.symm))⟩⟩
  rcases hcase with h1|h1
  ·exact .inl h1
  ·exact .inr ⟨_,h1,hE'.size⟩
 ·exact⟨aB (Ms:=[]) ho.1 hE (by simp),ho.2⟩
 obtain⟨o7,c7,rfl⟩:=hv
 simp only[zp]
 intro W9 hE hF
 obtain⟨qK,AO⟩:=hF _ (bI _)
 have iq:Ext Ms W8 W9:=hE
 have hbl:=(iq.block wb jA.o.rows.lt hm1).trans jA.o.blk
 obtain⟨c9,f9,l9⟩:=af hbl
 have iZ:=ae (ag iq (ag qK (ag AO hbl)))
 have E5:Below N w W9:=(qc.o.mono gK).trans ⟨iq.os,iq.tape,iq.output,iq.size,fun k hk=>iq.block k (by have:=qc.o.size;omega) (fun h=>by have:=((jA.o.rows.own 0 _ rfl).lt k (by rw[HM.o] at h;exact dK.1 h)).1;omega)⟩
 have qc:=ae E5
 clear hE hF iq qK AO hbl E5 hm1 hm2 xI c8 f8 lb8 n80 n81 n82 n83 n84
 go_wp2_with fail
 go_end0
 have q0:=jS.o
 have q1:=rF.o
 have q2:=xK.o
 have q3:=IZ.o
 have q4:=VW.o
 have q5:=HQ5.o
 simp only[iW,bZ,cu,dG]
 (repeat (first|rw[aF (by omega)]|rw[ak (by omega)]))
 refine⟨qc.o.setCell wK _,.inl ⟨rfl,rfl,⟨.slice o7 (s.led.field.az.length+1) c7,vn,vw,vu,vr,vh,vk,vs⟩,es,jA.o.put (i:=0) rfl ⟨118,5,.slice o7 (s.led.field.az.length+1) c7,s.led.field.az.length+1,dS s.led.field.az++[iv x,iv y,iv z,iv p,iv q]⟩ iZ.o.1 (fun m hm=>by rw[HM.o] at hm;exact dK.1 hm) iZ.o.2.1 iZ.o.2.2.1 (aJ iZ.o.2.2.2 _) (by simp[iP,mJ,dS]) (jA.o.es)⟩⟩
theorem LK (N:Nat) (w:World) (wb:Nat) (s:jr) (V:SV) (es:List KE) (ns:Value) (x y z p q:Int) (hO:jV N w wb s V es) (hn:rW N w ns [x,y,z,p,q]) (hG:gU s) (hyz:z<=y):Calls Tryz.prog 178 #[.pointer (some ⟨wb,0,none⟩),ns] w (rE N wb (iW s .tally [x,y,z,p,q]) w):=by
 obtain⟨vt,vn,vw,vu,vr,vh,vk,vs⟩:=V
 obtain⟨o,cc,rfl⟩: ∃o c,vt= .slice o s.led.field.az.length c:=aU (n:=s.led.field.az.length) (hO.rows.own 0 _ rfl)
 have HO:=ae hO
 have gK:=eY hO
 obtain⟨b,c,rfl,hbN,hcs⟩:=hn
 have lb:b<w.heap.size:=by omega
 have lw:=hO.rows.lt
 have wK:=hO.rows.base
 have HW:Hid (∀W,Below N w W->b<W.heap.size/\ ∀(j:Nat) (h:j<[x,y,z,p,q].length),W.cell? ⟨b,j,none⟩=some (iv [x,y,z,p,q][j])):=ae (fun W hB=>⟨by have:=hB.size;omega,fun j h=>(je (hB.block b hbN)).trans (hcs j h)⟩)
 obtain⟨c0,f0,l0⟩:=af hO.blk
 have oZ:=hcs 0 (by simp)
 simp only[au] at oZ
 have n01:=hcs 1 (by simp)
 simp only[au] at n01
 have n02:=hcs 2 (by simp)
 simp only[au] at n02
 have n03:=hcs 3 (by simp)
 simp only[au] at n03
 have n04:=hcs 4 (by simp)
 simp only[au] at n04
 have HB0:Hid (Below w.heap.size w w):=ae (aG _ _)
 have MV:=hG.FI
 have hwe:=hG.aO
 have jS:=ae hyz
 clear hO hcs hG
 go_enter Tryz.func178,Tryz.ntmps178
 go_wp2_with fail
 refine zg 7 [] none [] ?_
 simp only[zt]
 repeat ((first|refine zd ?_|refine zk ?_);simp only[zp])
 intro W1 hE hF
 have HB1:=ae (aW HB0.o hE.below)
 clear hE hF c0 f0 oZ n01 n02 n03 n04
 obtain⟨c1,f1,l1⟩:=af ((HB1.o.block _ lw).trans HO.o.blk)
 obtain⟨wW,hcs1⟩:=HW.o W1 (HB1.o.mono gK)
 have n10:=hcs1 0 (by simp)
 simp only[au] at n10
 have n11:=hcs1 1 (by simp)
 simp only[au] at n11
 have n12:=hcs1 2 (by simp)
 simp only[au] at n12
 have n13:=hcs1 3 (by simp)
 simp only[au] at n13
 have n14:=hcs1 4 (by simp)
 simp only[au] at n14
 clear hcs1
 go_wp2_with fail
 refine(jg _ _ _).mono ?_
 rintro e W2 ⟨hb,⟨hc,rfl⟩|⟨hc,rfl⟩⟩
 rotate_left
 ·simp at hc
  have q0:=jS.o
  simp only[iW,bZ,cu,dG]
  (repeat (first|rw[aF (by omega)]|rw[ak (by omega)]))
  exact⟨rfl,(aW HB1.o hb).mono gK,.inr ⟨by simp,rfl⟩⟩
 simp at hc
 have HB2:=ae (aW HB1.o hb)
 have HS2:=ae hb
 have rF:=ae hc
 clear hb hc c1 f1 wW n10 n11 n12 n13 n14
 obtain⟨c2,f2,l2⟩:=af ((HB2.o.block _ lw).trans HO.o.blk)
 obtain⟨xW,hcs2⟩:=HW.o W2 (HB2.o.mono gK)
 have n20:=hcs2 0 (by simp)
 simp only[au] at n20
 have n21:=hcs2 1 (by simp)
 simp only[au] at n21
 have n22:=hcs2 2 (by simp)
 simp only[au] at n22
 have n23:=hcs2 3 (by simp)
 simp only[au] at n23
 have n24:=hcs2 4 (by simp)
 simp only[au] at n24
 clear hcs2
 go_wp2_with fail
 refine zg 11 [] none [] ?_
 simp only[zt]
 repeat ((first|refine zd ?_|refine zk ?_);simp only[zp])
 intro W3 hE hF
 have HB3:=ae (aW HB2.o hE.below)
 clear hE hF c2 f2 xW n20 n21 n22 n23 n24
 obtain⟨c3,f3,l3⟩:=af ((HB3.o.block _ lw).trans HO.o.blk)
 obtain⟨Kv,hcs3⟩:=HW.o W3 (HB3.o.mono gK)
 have n30:=hcs3 0 (by simp)
 simp only[au] at n30
 have n31:=hcs3 1 (by simp)
 simp only[au] at n31
 have n32:=hcs3 2 (by simp)
 simp only[au] at n32
 have n33:=hcs3 3 (by simp)
 simp only[au] at n33
 have n34:=hcs3 4 (by simp)
 simp only[au] at n34
 clear hcs3
 go_wp2_with fail
 clear hyz
 refine(jg _ _ _).mono ?_
 rintro e W4 ⟨hb,⟨hc,rfl⟩|⟨hc,rfl⟩⟩
 rotate_left
 ·simp at hc
  have q0:=jS.o
  have q1:=rF.o
  simp only[iW,bZ,cu,dG]
  (repeat (first|rw[aF (by omega)]|rw[ak (by omega)]))
  exact⟨rfl,(aW HB3.o hb).mono gK,.inr ⟨by simp,rfl⟩⟩
 simp at hc
 have HB4:=ae (aW HB3.o hb)
 have Rk:=ae hb
 have xK:=ae hc
 clear hb hc c3 f3 Kv n30 n31 n32 n33 n34
 obtain⟨c4,f4,l4⟩:=af ((HB4.o.block _ lw).trans HO.o.blk)
 obtain⟨Ku,kD⟩:=HW.o W4 (HB4.o.mono gK)
 have n40:=kD 0 (by simp)
 simp only[au] at n40
 have n41:=kD 1 (by simp)
 simp only[au] at n41
 have n42:=kD 2 (by simp)
 simp only[au] at n42
 have n43:=kD 3 (by simp)
 simp only[au] at n43
 have n44:=kD 4 (by simp)
 simp only[au] at n44
 clear kD
 go_wp2_with fail
 refine zg 6 [] none [] ?_
 simp only[zt]
 repeat ((first|refine zd ?_|refine zk ?_);simp only[zp])
 intro W5 hE hF
 have nM:=ae (aW HB4.o hE.below)
 clear hE hF c4 f4 Ku n40 n41 n42 n43 n44
 obtain⟨c5,f5,l5⟩:=af ((nM.o.block _ lw).trans HO.o.blk)
 obtain⟨Pj,uI⟩:=HW.o W5 (nM.o.mono gK)
 have n50:=uI 0 (by simp)
 simp only[au] at n50
 have n51:=uI 1 (by simp)
 simp only[au] at n51
 have n52:=uI 2 (by simp)
 simp only[au] at n52
 have n53:=uI 3 (by simp)
 simp only[au] at n53
 have n54:=uI 4 (by simp)
 simp only[au] at n54
 clear uI
 go_wp2_with fail
 refine(eG 2 [decide (z<y)] W5 (by simp) _ (by simp[dL]) _ _ rfl).mono ?_
 rintro e W6 ⟨hb,⟨hc,rfl⟩|⟨hc,rfl⟩⟩
 rotate_left
 ·simp at hc
  have q0:=jS.o
  have q1:=rF.o
  have q2:=xK.o
  simp only[iW,bZ,cu,dG]
  (repeat (first|rw[aF (by omega)]|rw[ak (by omega)]))
  exact⟨rfl,(aW nM.o hb).mono gK,.inr ⟨by simp,rfl⟩⟩
 simp at hc
 have nK:=ae (aW nM.o hb)
 have HS6:=ae hb
 have IZ:=ae hc
 clear hb hc c5 f5 Pj n50 n51 n52 n53 n54
 obtain⟨c6,f6,l6⟩:=af ((nK.o.block _ lw).trans HO.o.blk)
 obtain⟨lb6,uH⟩:=HW.o W6 (nK.o.mono gK)
 have n60:=uH 0 (by simp)
 simp only[au] at n60
 have n61:=uH 1 (by simp)
 simp only[au] at n61
 have n62:=uH 2 (by simp)
 simp only[au] at n62
 have n63:=uH 3 (by simp)
 simp only[au] at n63
 have n64:=uH 4 (by simp)
 simp only[au] at n64
 clear uH
 go_wp2_with fail
 refine RX.gG (fun ps W'=> ¬(p<=q/\q<=s.led.field.rows)/\ps=kH 2/\Below N w W') 19 [] none [(16,⟨fun _ v=>v=rv (p,q),fun _ _ _=>(p<=q/\q<=s.led.field.rows)⟩),(18,Spec.block W6.heap.size #[iv 0,iv 0,iv 0,iv 0,iv 0] 118)] (by rintro ps a1 Wx hdf ⟨h1,rfl,h3⟩;refine⟨hdf,wO (c:=2) h3 ?_ (by decide)⟩;have q0:=jS.o;have q1:=rF.o;have q2:=xK.o;have q3:=IZ.o;simp only[iW,bZ,cu,dG];(repeat (first|rw[aF (by omega)]|rw[ak (by omega)]))) (by as_aux_lemma=>kernel_rfl) (by as_aux_lemma=>kernel_rfl) ?_
 simp only[zt]
 repeat (refine RX.zd ?_;simp only[zp])
 refine RX.bK _ (by rfl) (by rfl) ⟨_,rfl⟩ (fun Wq hE2 hF2=>?_) (fun v Wa Wb ho hE=>ho) (fun v hv=>?_)
 ·have hE':Ext [] W6 Wq:=hE2
  refine RX.dF 250 #[.pointer (some ⟨wb,0,none⟩),iv p,iv q] (by go_simp;try rfl) ?_
  refine(uV p q wb s _ Wq ((hE'.block _ (eu lw nK.o.size) (by simp)).trans ((nK.o.block _ lw).trans HO.o.blk))).mono ?_
  rintro e w' ⟨hb,⟨hc,rfl⟩|⟨hc,rfl⟩⟩
  ·exact .inl ⟨_,rfl,rfl,hc,Ext.aA hb⟩
  ·exact .inr ⟨_,rfl,hc,rfl,(aW nK.o (aW hE'.below hb)).mono gK⟩
 obtain rfl:v=rv (p,q):=hv
 simp only[zp]
 repeat (refine RX.zd ?_;simp only[zp])
 refine RX.jX W6.heap.size _ _ (by rfl) (ai _) (by rfl) (by simp) (by simp) (fun W hW=>by go_simp;try rfl) (fun b9=>?_)
 simp only[zp]
 intro Wb hE hF
 obtain⟨b9',wZ,hge,hk9⟩:=hF _ (bI _)
 cases wZ
 have hc:p<=q/\q<=s.led.field.rows:=hF _ (nS _ (bI _))
 have HBb:=ae (aW nK.o (show Ext [] W6 Wb from hE).below)
 have VW:=ae hc
 have qV:=ae (ag (ji nK.o.size hge) hk9)
 obtain⟨c9,f9,l9⟩:=af hk9
 clear hE hF hc hge hk9 c6 f6 lb6 n60 n61 n62 n63 n64
 go_upto_region 5 with(fail)
 refine dI fun W7 qp=>?_
 have xN:=ae (show Below w.heap.size w W7 from by rw[qp];exact(((((HBb.o).setCell qV.o.1 _).setCell qV.o.1 _).setCell qV.o.1 _).setCell qV.o.1 _).setCell qV.o.1 _)
 have Ei:=ae (show W7.heap[b9]? =some (.cells #[iv x,iv y,iv z,iv p,iv q] 118 (0,0)) from by rw[qp];exact aJ (aJ (aJ (aJ (aJ (qV.o.2) _) _) _) _) _)
 have ZW:b9<W7.heap.size:=(aV.1 Ei.o).1
 clear qp c9 f9 l9
 obtain⟨c7,f7,l7⟩:=af ((xN.o.block _ lw).trans HO.o.blk)
 obtain⟨lb7,uG⟩:=HW.o W7 (xN.o.mono gK)
 have n70:=uG 0 (by simp)
 simp only[au] at n70
 have n71:=uG 1 (by simp)
 simp only[au] at n71
 have n72:=uG 2 (by simp)
 simp only[au] at n72
 have n73:=uG 3 (by simp)
 simp only[au] at n73
 have n74:=uG 4 (by simp)
 simp only[au] at n74
 clear uG
 go_wp2_with fail
 refine(qO _ _ _).mono ?_
 rintro e W8 ⟨hb,⟨hc,rfl⟩|⟨hc,rfl⟩⟩
 rotate_left
 ·simp at hc
  have q0:=jS.o
  have q1:=rF.o
  have q2:=xK.o
  have q3:=IZ.o
  have q4:=VW.o
  simp only[iW,bZ,cu,dG]
  (repeat (first|rw[aF (by omega)]|rw[ak (by omega)]))
  exact⟨rfl,(aW xN.o hb).mono gK,.inr ⟨by simp,rfl⟩⟩
 simp at hc
 have qc:=ae (aW xN.o hb)
 have HS8:=ae hb
 have HQ5:=ae hc
 clear hb hc c7 f7 lb7 n70 n71 n72 n73 n74
 obtain⟨c8,f8,l8⟩:=af ((qc.o.block _ lw).trans HO.o.blk)
 obtain⟨lb8,D6⟩:=HW.o W8 (qc.o.mono gK)
 have n80:=D6 0 (by simp)
 simp only[au] at n80
 have n81:=D6 1 (by simp)
 simp only[au] at n81
 have n82:=D6 2 (by simp)
 simp only[au] at n82
 have n83:=D6 3 (by simp)
 simp only[au] at n83
 have n84:=D6 4 (by simp)
 simp only[au] at n84
 clear D6
 go_wp2_with fail
 obtain⟨Ms,hMs⟩: ∃Ms,Ms=(Value.slice o s.led.field.az.length cc).ownBlock.toList:=⟨_,rfl⟩
 have Hu:=HO.o.below qc.o
 have hm1:wb∉Ms:=fun h=>Hu.rows.off 0 _ rfl (by rw[hMs] at h;exact dK.1 h)
 have hm2:b∉Ms:=fun h=>by have:=((Hu.rows.own 0 _ rfl).lt b (by rw[hMs] at h;exact dK.1 h)).1;omega
 have xI: ∀m∈Ms,m<W8.heap.size:=fun m h=>((Hu.rows.own 0 _ rfl).lt m (by rw[hMs] at h;exact dK.1 h)).2
 obtain⟨c9,f9,l9⟩:=af ((HS8.o.block _ ZW).trans Ei.o)
 have hm9:b9∉Ms:=fun h=>by have:=((HO.o.rows.own 0 _ rfl).lt b9 (by rw[hMs] at h;exact dK.1 h)).2;have:=qV.o.1;omega
 have HM:=ae hMs
 have jA:=ae Hu
 clear hMs Hu
 refine zg 8 Ms (some 7) [(6,Spec.slice W8.heap.size #[iv x,iv y,iv z,iv p,iv q] 118 1),(7,⟨fun _ v=> ∃o2 c2,v= .slice o2 (s.led.field.az.length+1) c2,fun _ v Wx=>Wx.ownsRow N 118 5 v (s.led.field.az.length+1) (dS s.led.field.az++[iv x,iv y,iv z,iv p,iv q])/\(v.ownBlock=(Value.slice o s.led.field.az.length cc).ownBlock∨ ∃q,v.ownBlock=some q/\W8.heap.size<=q)⟩)] ?_
 simp only[zt]
 repeat ((first|refine zd ?_|refine zk ?_);simp only[zp])
 refine eH W8.heap.size _ _ 1 (by rfl) (ai _) (by rfl) xI (by simp) (fun W hW=>by go_simp;try rfl) (fun b6=>?_)
 simp only[zp]
 repeat ((first|refine zd ?_|refine zk ?_);simp only[zp])
 refine bK _ (by rfl) (by rfl) (by exact⟨.slice none (s.led.field.az.length+1) 0,none,0,rfl⟩) (fun W6 hE hF=>?_) (fun v Wa Wb ho hE=>?_) (fun v hv=>?_)
 ·have hE':Ext [] W8 W6:=hE
  obtain⟨b',hb',hge,hcc⟩:=hF _ (bI _) (by kernel_rfl)
  cases hb'
  have hown6:W6.ownsRow N 118 5 (.slice o s.led.field.az.length cc) s.led.field.az.length (dS s.led.field.az):=aB (Ms:=[]) (jA.o.rows.own 0 _ rfl) hE' (by simp)
  have hsrc:aN 5 W6 (.slice (some ⟨b6,0,none⟩) 1 1) 1 ([iv x,iv y,iv z,iv p,iv q]):=aN.dw 5 1 hcc rfl (by decide)
  refine Does.mono (dU Zm (by rfl) (by rfl) hown6 (by rfl) hsrc (OX x y z p q) (by omega) (by omega) (by have:=hE'.size;have:=qc.o.size;omega)) ?_
  rintro v' W7 ⟨ho,hgr,hcase⟩
  refine⟨aU ho,⟨ho,?_⟩,⟨hgr.os,hgr.tape,hgr.output,hgr.size,fun b hb hn=>hgr.block b hb (fun e=>hn (by rw[HM.o];exact dK.2 e.symm))⟩⟩
  rcases hcase with h1|h1
  ·exact .inl h1
  ·exact .inr ⟨_,h1,hE'.size⟩
 ·exact⟨aB (Ms:=[]) ho.1 hE (by simp),ho.2⟩
 obtain⟨o7,c7,rfl⟩:=hv
 simp only[zp]
 intro W9 hE hF
 obtain⟨qK,AO⟩:=hF _ (bI _)
 have iq:Ext Ms W8 W9:=hE
 have hbl:=(iq.block wb jA.o.rows.lt hm1).trans jA.o.blk
 obtain⟨c9,f9,l9⟩:=af hbl
 have iZ:=ae (ag iq (ag qK (ag AO hbl)))
 have E5:Below N w W9:=(qc.o.mono gK).trans ⟨iq.os,iq.tape,iq.output,iq.size,fun k hk=>iq.block k (by have:=qc.o.size;omega) (fun h=>by have:=((jA.o.rows.own 0 _ rfl).lt k (by rw[HM.o] at h;exact dK.1 h)).1;omega)⟩
 have qc:=ae E5
 clear hE hF iq qK AO hbl E5 hm1 hm2 xI c8 f8 lb8 n80 n81 n82 n83 n84
 go_wp2_with fail
 go_end0
 have q0:=jS.o
 have q1:=rF.o
 have q2:=xK.o
 have q3:=IZ.o
 have q4:=VW.o
 have q5:=HQ5.o
 simp only[iW,bZ,cu,dG]
 (repeat (first|rw[aF (by omega)]|rw[ak (by omega)]))
 refine⟨qc.o.setCell wK _,.inl ⟨rfl,rfl,⟨.slice o7 (s.led.field.az.length+1) c7,vn,vw,vu,vr,vh,vk,vs⟩,es,jA.o.put (i:=0) rfl ⟨118,5,.slice o7 (s.led.field.az.length+1) c7,s.led.field.az.length+1,dS s.led.field.az++[iv x,iv y,iv z,iv p,iv q]⟩ iZ.o.1 (fun m hm=>by rw[HM.o] at hm;exact dK.1 hm) iZ.o.2.1 iZ.o.2.2.1 (aJ iZ.o.2.2.2 _) (by simp[iP,mJ,dS]) (jA.o.es)⟩⟩
theorem zo (N:Nat) (w:World) (wb:Nat) (s:jr) (V:SV) (es:List KE) (ns:Value) (x y z p q:Int) (hO:jV N w wb s V es) (hn:rW N w ns [x,y,z,p,q]) (hG:gU s):
 Calls Tryz.prog 178 #[.pointer (some ⟨wb,0,none⟩),ns] w (rE N wb (iW s .tally [x,y,z,p,q]) w):=by
 by_cases h:y<z
 ·exact LJ N w wb s V es ns x y z p q hO hn hG h
 ·exact LK N w wb s V es ns x y z p q hO hn hG (by omega)
theorem try_any (N:Nat) (w:World) (wb:Nat) (s:jr) (V:SV) (es:List KE) (ns:Value) (x y z:Int) (hO:jV N w wb s V es) (hn:rW N w ns [x,y,z]) (hG:gU s) (hx:(0<=x/\x<=9999)/\0<=y/\y<=9999):Calls Tryz.prog 195 #[.pointer (some ⟨wb,0,none⟩),ns] w (rE N wb (iW s .Bl [x,y,z]) w):=by
 obtain⟨vt,vn,vw,vu,vr,vh,vk,vs⟩:=V
 obtain⟨ok,ck,rfl⟩: ∃o c,vk= .slice o es.length c:=aU (n:=es.length) (hO.rows.own 6 _ rfl)
 obtain⟨o,cc,rfl⟩: ∃o c,vs= .slice o s.dn.aK.length c:=aU (n:=s.dn.aK.length) (hO.rows.own 7 _ rfl)
 have HO:=ae hO
 have gK:=eY hO
 obtain⟨b,c,rfl,hbN,hcs⟩:=hn
 have lb:b<w.heap.size:=by omega
 have lw:=hO.rows.lt
 have wK:=hO.rows.base
 have HW:Hid (∀W,Below N w W->b<W.heap.size/\ ∀(j:Nat) (h:j<[x,y,z].length),W.cell? ⟨b,j,none⟩=some (iv [x,y,z][j])):=ae (fun W hB=>⟨by have:=hB.size;omega,fun j h=>(je (hB.block b hbN)).trans (hcs j h)⟩)
 obtain⟨c0,f0,l0⟩:=af hO.blk
 have oZ:=hcs 0 (by simp)
 simp only[au] at oZ
 have n01:=hcs 1 (by simp)
 simp only[au] at n01
 have n02:=hcs 2 (by simp)
 simp only[au] at n02
 have HB0:Hid (Below w.heap.size w w):=ae (aG _ _)
 have MV:=hG.aK
 have hes:es.length=s.dn.aT.length:=by rw[<-hO.es];simp
 have jS:=ae hes
 clear hes
 clear hO hcs hG
 go_enter Tryz.func195,Tryz.ntmps195
 go_wp2_with fail
 refine zg 8 [] none [] ?_
 simp only[zt]
 repeat ((first|refine zd ?_|refine zk ?_);simp only[zp])
 intro W1 hE hF
 have HB1:=ae (aW HB0.o hE.below)
 clear hE hF c0 f0 oZ n01 n02
 obtain⟨c1,f1,l1⟩:=af ((HB1.o.block _ lw).trans HO.o.blk)
 obtain⟨wW,hcs1⟩:=HW.o W1 (HB1.o.mono gK)
 have n10:=hcs1 0 (by simp)
 simp only[au] at n10
 have n11:=hcs1 1 (by simp)
 simp only[au] at n11
 have n12:=hcs1 2 (by simp)
 simp only[au] at n12
 clear hcs1
 go_wp2_with fail
 refine(jg _ _ _).mono ?_
 rintro e W2 ⟨hb,⟨hc,rfl⟩|⟨hc,rfl⟩⟩
 rotate_left
 ·simp at hc
  have q0:=jS.o
  simp only[iW,bZ,cu,dG]
  (repeat (first|rw[aF (by omega)]|rw[ak (by omega)]))
  exact⟨rfl,(aW HB1.o hb).mono gK,.inr ⟨by simp,rfl⟩⟩
 simp at hc
 have HB2:=ae (aW HB1.o hb)
 have HS2:=ae hb
 have rF:=ae hc
 clear hb hc c1 f1 wW n10 n11 n12
 obtain⟨c2,f2,l2⟩:=af ((HB2.o.block _ lw).trans HO.o.blk)
 obtain⟨xW,hcs2⟩:=HW.o W2 (HB2.o.mono gK)
 have n20:=hcs2 0 (by simp)
 simp only[au] at n20
 have n21:=hcs2 1 (by simp)
 simp only[au] at n21
 have n22:=hcs2 2 (by simp)
 simp only[au] at n22
 clear hcs2
 go_wp2_with fail
 refine RX.gG (fun ps W'=> ¬(y<=z/\z<=100/\z<=y+100)/\ps=kH 2/\Below N w W') 8 [] none [(6,⟨fun _ v=>v=rv (y,z),fun _ _ _=>(y<=z/\z<=100/\z<=y+100)⟩),(7,Spec.block W2.heap.size #[iv 0,iv 0] 112)] (by rintro ps a1 Wx hdf ⟨h1,rfl,h3⟩;refine⟨hdf,wO (c:=2) h3 ?_ (by decide)⟩;have q0:=jS.o;have q1:=rF.o;simp only[iW,bZ,cu,dG];(repeat (first|rw[aF (by omega)]|rw[ak (by omega)]))) (by as_aux_lemma=>kernel_rfl) (by as_aux_lemma=>kernel_rfl) ?_
 simp only[zt]
 repeat (refine RX.zd ?_;simp only[zp])
 refine RX.bK _ (by rfl) (by rfl) ⟨_,rfl⟩ (fun Wq hE2 hF2=>?_) (fun v Wa Wb ho hE=>ho) (fun v hv=>?_)
 ·have hE':Ext [] W2 Wq:=hE2
  refine RX.dF 260 #[iv y,iv z,iv 100] (by go_simp;try rfl) ?_
  refine(wL y z 100 Wq (by omega)).mono ?_
  rintro e w' ⟨hb,⟨hc,rfl⟩|⟨hc,rfl⟩⟩
  ·exact .inl ⟨_,rfl,rfl,hc,Ext.aA hb⟩
  ·exact .inr ⟨_,rfl,hc,rfl,(aW HB2.o (aW hE'.below hb)).mono gK⟩
 obtain rfl:v=rv (y,z):=hv
 simp only[zp]
 repeat (refine RX.zd ?_;simp only[zp])
 refine RX.jX W2.heap.size _ _ (by rfl) (ai _) (by rfl) (by simp) (by simp) (fun W hW=>by go_simp;try rfl) (fun b9=>?_)
 simp only[zp]
 intro Wb hE hF
 obtain⟨b9',wZ,hge,hk9⟩:=hF _ (bI _)
 cases wZ
 have hc:y<=z/\z<=100/\z<=y+100:=hF _ (nS _ (bI _))
 have HBb:=ae (aW HB2.o (show Ext [] W2 Wb from hE).below)
 have xK:=ae hc
 have qV:=ae (ag (ji HB2.o.size hge) hk9)
 obtain⟨c9,f9,l9⟩:=af hk9
 clear hE hF hc hge hk9 c2 f2 xW n20 n21 n22
 go_upto_region 3 with(fail)
 refine dI fun W3 qp=>?_
 have HB3:=ae (show Below w.heap.size w W3 from by rw[qp];exact((HBb.o).setCell qV.o.1 _).setCell qV.o.1 _)
 have Ei:=ae (show W3.heap[b9]? =some (.cells #[iv y,iv z] 112 (0,0)) from by rw[qp];exact aJ (aJ (qV.o.2) _) _)
 have ZW:b9<W3.heap.size:=(aV.1 Ei.o).1
 clear qp c9 f9 l9
 obtain⟨c3,f3,l3⟩:=af ((HB3.o.block _ lw).trans HO.o.blk)
 obtain⟨Kv,hcs3⟩:=HW.o W3 (HB3.o.mono gK)
 have n30:=hcs3 0 (by simp)
 simp only[au] at n30
 have n31:=hcs3 1 (by simp)
 simp only[au] at n31
 have n32:=hcs3 2 (by simp)
 simp only[au] at n32
 clear hcs3
 go_wp2_with fail
 refine(qO _ _ _).mono ?_
 rintro e W4 ⟨hb,⟨hc,rfl⟩|⟨hc,rfl⟩⟩
 rotate_left
 ·simp at hc
  have q0:=jS.o
  have q1:=rF.o
  have q2:=xK.o
  simp only[iW,bZ,cu,dG]
  (repeat (first|rw[aF (by omega)]|rw[ak (by omega)]))
  exact⟨rfl,(aW HB3.o hb).mono gK,.inr ⟨by simp,rfl⟩⟩
 simp at hc
 have HB4:=ae (aW HB3.o hb)
 have Rk:=ae hb
 have IZ:=ae hc
 clear hb hc c3 f3 Kv n30 n31 n32
 obtain⟨c4,f4,l4⟩:=af ((HB4.o.block _ lw).trans HO.o.blk)
 obtain⟨Ku,kD⟩:=HW.o W4 (HB4.o.mono gK)
 have n40:=kD 0 (by simp)
 simp only[au] at n40
 have n41:=kD 1 (by simp)
 simp only[au] at n41
 have n42:=kD 2 (by simp)
 simp only[au] at n42
 clear kD
 go_wp2_with fail
 obtain⟨Ms,hMs⟩: ∃Ms,Ms=(Value.slice o s.dn.aK.length cc).ownBlock.toList:=⟨_,rfl⟩
 have hO4:=HO.o.below HB4.o
 have hm1:wb∉Ms:=fun h=>hO4.rows.off 7 _ rfl (by rw[hMs] at h;exact dK.1 h)
 have hm2:b∉Ms:=fun h=>by have:=((hO4.rows.own 7 _ rfl).lt b (by rw[hMs] at h;exact dK.1 h)).1;omega
 have xI: ∀m∈Ms,m<W4.heap.size:=fun m h=>((hO4.rows.own 7 _ rfl).lt m (by rw[hMs] at h;exact dK.1 h)).2
 obtain⟨c9,f9,l9⟩:=af ((Rk.o.block _ ZW).trans Ei.o)
 have hm9:b9∉Ms:=fun h=>by have:=((HO.o.rows.own 7 _ rfl).lt b9 (by rw[hMs] at h;exact dK.1 h)).2;have:=qV.o.1;omega
 have HM:=ae hMs
 have jA:=ae hO4
 clear hMs hO4
 refine zg 12 Ms (some 11) [(10,Spec.slice W4.heap.size #[.bool true,iv x,iv y,iv z] 124 1),(11,⟨fun _ v=> ∃o2 c2,v= .slice o2 (s.dn.aK.length+1) c2,fun _ v Wx=>Wx.ownsRow N 124 4 v (s.dn.aK.length+1) (gV s.dn.aK++[.bool true,iv x,iv y,iv z])/\(v.ownBlock=(Value.slice o s.dn.aK.length cc).ownBlock∨ ∃q,v.ownBlock=some q/\W4.heap.size<=q)⟩)] ?_
 simp only[zt]
 repeat ((first|refine zd ?_|refine zk ?_);simp only[zp])
 refine eH W4.heap.size _ _ 1 (by rfl) (ai _) (by rfl) xI (by simp) (fun W hW=>by go_simp;try rfl) (fun b6=>?_)
 simp only[zp]
 repeat ((first|refine zd ?_|refine zk ?_);simp only[zp])
 refine bK _ (by rfl) (by rfl) (by exact⟨.slice none (s.dn.aK.length+1) 0,none,0,rfl⟩) (fun W6 hE hF=>?_) (fun v Wa Wb ho hE=>?_) (fun v hv=>?_)
 ·have hE':Ext [] W4 W6:=hE
  obtain⟨b',hb',hge,hcc⟩:=hF _ (bI _) (by kernel_rfl)
  cases hb'
  have hown6:W6.ownsRow N 124 4 (.slice o s.dn.aK.length cc) s.dn.aK.length (gV s.dn.aK):=aB (Ms:=[]) (jA.o.rows.own 7 _ rfl) hE' (by simp)
  have hsrc:aN 4 W6 (.slice (some ⟨b6,0,none⟩) 1 1) 1 ([.bool true,iv x,iv y,iv z]):=aN.dw 4 1 hcc rfl (by decide)
  refine Does.mono (dU ab3 (by rfl) (by rfl) hown6 (by rfl) hsrc (acf x y z) (by omega) (by omega) (by have:=hE'.size;have:=HB4.o.size;omega)) ?_
  rintro v' W7 ⟨ho,hgr,hcase⟩
  refine⟨aU ho,⟨ho,?_⟩,⟨hgr.os,hgr.tape,hgr.output,hgr.size,fun b hb hn=>hgr.block b hb (fun e=>hn (by rw[HM.o];exact dK.2 e.symm))⟩⟩
  rcases hcase with h1|h1
  ·exact .inl h1
  ·exact .inr ⟨_,h1,hE'.size⟩
 ·exact⟨aB (Ms:=[]) ho.1 hE (by simp),ho.2⟩
 obtain⟨o7,c7,rfl⟩:=hv
 simp only[zp]
 intro W5 hE hF
 obtain⟨qK,AO⟩:=hF _ (bI _)
 have iq:Ext Ms W4 W5:=hE
 have hbl:=(iq.block wb jA.o.rows.lt hm1).trans jA.o.blk
 obtain⟨c5,f5,l5⟩:=af hbl
 have iZ:=ae (ag iq (ag qK (ag AO hbl)))
 have E5:Below N w W5:=(HB4.o.mono gK).trans ⟨iq.os,iq.tape,iq.output,iq.size,fun k hk=>iq.block k (by have:=HB4.o.size;omega) (fun h=>by have:=((jA.o.rows.own 7 _ rfl).lt k (by rw[HM.o] at h;exact dK.1 h)).1;omega)⟩
 have qc:=ae E5
 clear hE hF iq qK AO hbl E5 hm1 hm2 xI c4 f4 Ku n40 n41 n42
 go_wp2_with fail
 go_end0
 have q0:=jS.o
 have q1:=rF.o
 have q2:=xK.o
 have q3:=IZ.o
 simp only[iW,bZ,cu,dG]
 (repeat (first|rw[aF (by omega)]|rw[ak (by omega)]))
 refine⟨qc.o.setCell wK _,.inl ⟨rfl,rfl,⟨vt,vn,vw,vu,vr,vh,.slice ok (es.length) ck,.slice o7 (s.dn.aK.length+1) c7⟩,es,jA.o.put (i:=7) rfl ⟨124,4,.slice o7 (s.dn.aK.length+1) c7,s.dn.aK.length+1,gV s.dn.aK++[.bool true,iv x,iv y,iv z]⟩ iZ.o.1 (fun m hm=>by rw[HM.o] at hm;exact dK.1 hm) iZ.o.2.1 iZ.o.2.2.1 (aJ iZ.o.2.2.2 _) (by simp[iP,fP,gV]) (jA.o.es)⟩⟩
end Go.Proofs.YthbpmepjmebolaaGreatDoor.Bk
end
section
namespace Go.Proofs.YthbpmepjmebolaaGreatDoor.Bk
open jv
def xn (n:Nat):Nat->aH
 |0=>[]
 |m+1=>xn (n/10) m++[KT (n%10)]
theorem Qg (m:Nat): ∀n,(xn n m).length=m:=by
 induction m with
 |zero=>intro n;rfl
 |succ m ih=>intro n;simp[xn,ih]
def jQ:Nat->aH->Nat
 |_,[]=>0
 |k,c::l=>k*c.toNat+jQ (k+1) l
def uf (i:Nat) (line:aH):Nat:=(29*(i+1)+jQ 2 line)%9949
theorem X0 (i:Nat) (line:aH):uf i line<10^4:=by
 have:=Nat.mod_lt (29*(i+1)+jQ 2 line) (show 9949>0 by omega)
 unfold uf
 omega
def nI (i:Nat) (line:aH):aH:=xn line.length 2++(58::(line++(58::(xn (uf i line) 4++[10]))))
theorem Ep (i:Nat) (line:aH):(nI i line).length=9+line.length:=by simp[nI,Qg];omega
def jO (i:Nat):List aH->aH
 |[]=>[]
 |l::ls=>nI i l++jO (i+1) ls
def Ib (ls:List aH):aH:=jO 0 ls
theorem Jk: ∀(ls:List aH) (i:Nat) (l:aH),jO i (ls++[l])=jO i ls++nI (i+ls.length) l:=by
 intro ls
 induction ls with
 |nil=>intro i l;simp[jO]
 |cons x ls ih=>intro i l;simp only[List.cons_append,jO,ih,nC,List.length_cons];rw[show i+1+ls.length=i+(ls.length+1) from by omega]
def Oo:List aH->Nat
 |[]=>0
 |l::ls=>9+l.length+Oo ls
theorem Np: ∀(ls:List aH) (i:Nat),(jO i ls).length=Oo ls:=by
 intro ls
 induction ls with
 |nil=>intro i;rfl
 |cons l ls ih=>intro i;simp[jO,Oo,Ep,ih]
end Go.Proofs.YthbpmepjmebolaaGreatDoor.Bk
end
section
namespace Go.Proofs.YthbpmepjmebolaaGreatDoor
open Go.RowKit Go.RG Go.SL Go.Shelf jv Go.TB
theorem VK {l:aQ} (hp: ∃d∈gy l,jF l [] d=true) (p:Int->dY->dY):(CS p l (gy l)).length=l.field.aO.toNat:=by
 rcases KZ p l (gy l) (gy l).length (ai _) with h|h
 ·obtain⟨d,hd,hc⟩:=hp
  by_cases h0:0<l.field.aO.toNat
  ·rcases IA p l (gy l) h0 (gy l).length (ai _) with⟨_,h2⟩|⟨h1,_⟩
   ·rw[List.take_length] at h2
    rw[h2 d hd] at hc;cases hc
   ·exact h1
  ·unfold CS;rw[h];simp;omega
 ·exact h
end Go.Proofs.YthbpmepjmebolaaGreatDoor
end
section
namespace Go.Proofs.YthbpmepjmebolaaGreatDoor
open Go.RowKit Go.RG Go.SL jv Go.Deep
section
variable {H : Type} {enc : TypeId × Value → H} {P : Program} {W : World} {base b0 : Nat} {spare : Nat → Bool} {held : Bool} {r : Reach}
theorem WV {α:Type} [Inhabited α] (f:α->List Value) (k:Nat) (hk0:0<k) (hf: ∀x,(f x).length=k) {t e:TypeId} (ht:P.underlying t=some (.slice e)) (hk:P.cellsOf e=k)
 (hel: ∀fuel cs x,DataW.trod enc P W base spare held fuel e cs=some x-> ∃y:α,cs=f y)
 {v:Value} (hok:Cell.ok P W r b0 t v) {fuel:Nat} {x:DataW H×List MemPlace} (h:DataW.trod enc P W base spare held fuel t [v]=some x):
 ∃l:List α,aN k W v l.length (l.flatMap f):=by
 rcases open_slice ht h with⟨hc,_⟩|⟨a,len,cap,m,n,D,Pl,hc,hb,hl,hm,hmm,_,hx⟩
 ·cases hc
  exact⟨[],aN.nil k W⟩
 ·cases hc
  have hsp:a.spot=none:=by
   simp only[Cell.ok,ht,World.has] at hok
   exact hok.2.2.2.1
  have hlm:len<=m:=by rw[hmm];split <;>omega
  have each: ∀i,i<m-> ∃y:α, ∀j u,(f y)[j]? =some u->W.cell? ⟨a.block,a.off+(i*k+j),none⟩=some u:=by
   intro i hi
   obtain⟨cs',h1,h2⟩:=hx i hi
   rw[hk] at h1
   obtain⟨_,hlen,hcell⟩:=World.cells?_some h1
   obtain⟨y,rfl⟩:=hel _ _ _ h2
   refine⟨y,fun j u hj=>?_⟩
   have hjk:j<k:=by rw[<-hf y];exact(jf.1 hj).1
   have h3:=hcell j hjk
   rw[add_add] at h3
   obtain⟨b,off,sp⟩:=a
   simp only at hsp
   subst hsp
   rw[Addr.add_lit] at h3
   rw[h3,hj]
  obtain⟨Y,hY⟩:=choose_lt each
  have hlen:((List.range len).map Y).length=len:=by simp
  refine⟨(List.range len).map Y,?_,some a,cap,by rw[hlen],by rw[hlen];exact hl,hm,(fun h=>by cases h),fun a' ha=>?_⟩
  ·have: ∀l:List α,(l.flatMap f).length=l.length*k:=by
    intro l
    induction l with
    |nil=>simp
    |cons z l ih=>rw[List.flatMap_cons,dD,hf,ih,List.length_cons,Nat.add_mul];omega
   exact this _
  ·cases ha
   refine⟨hsp,fun j u hj=>?_⟩
   have hjl:j<(((List.range len).map Y).flatMap f).length:=(jf.1 hj).1
   have ahb:(((List.range len).map Y).flatMap f).length=len*k:=by
    have: ∀l:List α,(l.flatMap f).length=l.length*k:=by
     intro l
     induction l with
     |nil=>simp
     |cons z l ih=>rw[List.flatMap_cons,dD,hf,ih,List.length_cons,Nat.add_mul];omega
    rw[this,hlen]
   rw[ahb] at hjl
   have hi:j/k<len:=(Nat.div_lt_iff_lt_mul hk0).2 hjl
   have hr:j%k<k:=Nat.mod_lt _ hk0
   have e:j/k*k+j%k=j:=by rw[Nat.mul_comm];exact Nat.div_add_mod j k
   have:=jD f k hf ((List.range len).map Y) (j/k) (j%k) (by rw[hlen];exact hi) hr
   rw[e,hj] at this
   simp only[List.getElem_map,List.getElem_range] at this
   have h4:=hY (j/k) (by omega) (j%k) u this.symm
   rw[e] at h4
   exact h4
end
section
variable {H : Type} {enc : TypeId × Value → H} {W : World} {base b0 : Nat} {spare : Nat → Bool} {held : Bool} {r : Reach}
end
theorem zU {H:Type} {enc:TypeId×Value->H} {P:Program} (hl:laidOutB P=true) {ts:List TypeId} (hr:(ts.all fun t=>P.readableRec t&&decide (t<P.types.size))=true) {W W':World} {vs:List Value} {ds:List (DataW H)} {ps:List MemPlace}
 (h:DataW.TrodAll enc P W 0 (fun _=>true) true ts vs ds ps) (hb:Below W.heap.size W W') (hlt: ∀x∈ps,x.block<W.heap.size):
 DataW.TrodAll enc P W' 0 (fun b=>decide (b<W.heap.size)) true ts vs ds ps:=by
 induction ts generalizing vs ds ps with
 |nil=>
  cases vs <;>cases ds <;>simp_all [DataW.TrodAll]
 |cons t ts ih=>
  cases vs with
  |nil=>cases ds <;>simp_all [DataW.TrodAll]
  |cons v vs=>
   cases ds with
   |nil=>simp_all [DataW.TrodAll]
   |cons d ds=>
    obtain⟨p,q,h1,h2,rfl⟩:=h
    simp only[List.all_cons,fH,fB] at hr
    exact⟨p,q,Below.trod hl hr.1.1 hr.1.2 h1 hb (fun x hx=>hlt x (by simp[hx])),ih (by simpa using hr.2) h2 (fun x hx=>hlt x (by simp[hx])),rfl⟩
end Go.Proofs.YthbpmepjmebolaaGreatDoor
end

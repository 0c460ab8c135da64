/-
  Texts of this claim, packed by a program: YA YB YC YE YF DA DB DC DD DE DF DG YD YI.
-/
import Derived.WalkKit
import Derived.WalkLawsBesides
import Derived.WalkSpells
import Derived.Outline
import Derived.Handy
import Derived.KernelRfl
import Derived.Lib.Hide
import Derived.Lib.AtoiTie
import Derived.Lib.ItoaNum
import Derived.StringKeys
import Derived.Lib.SlicesS
import Derived.BigRegion
import Derived.Test.YthbpmepjmebolaaGreatDoorPA8
import Derived.Test.YthbpmepjmebolaaGreatDoorPA11
set_option maxHeartbeats 8000000
set_option maxRecDepth 100000
set_option linter.all false
section
namespace Go.Proofs.YthbpmepjmebolaaGreatDoor.Bk
open jC Go.Proofs.YthbpmepjmebolaaGreatDoor.Be
abbrev aF:=List UInt8
def bZ:aF->List aF
 |[]=>[[]]
 |c::l=>if c=32 then[]::bZ l else(c::(bZ l).headD [])::(bZ l).tail
theorem kQ: ∀l,bZ l≠[]:=by
 intro l
 cases l with
 |nil=>simp[bZ]
 |cons c l=>unfold bZ;split <;>simp
theorem F9: ∀(a:aF),(∀c∈a,c≠32)->bZ a=[a]:=by
 intro a
 induction a with
 |nil=>intro _;rfl
 |cons c a ih=>
  intro h
  rw[bZ,aj (h c (by simp)),ih (fun x hx=>h x (by simp[hx]))]
  rfl
def iJ (c:UInt8):Bool:=decide (48<=c.toNat)&&decide (c.toNat<=57)
def qp (s:aF):Int:=s.foldl (fun n c=>10*n+((c.toNat:Int)-48)) 0
def Aa (s:aF):Bool:=decide (1<=s.length)&&decide (s.length<=4)&&(decide (s.headD 0≠48) ||decide (s.length=1))&&s.all iJ
def lu (s:aF):Option Int:=if Aa s=true then some (qp s) else none
theorem Lu: ∀(s:aF) (n:Int),0<=n->s.all iJ=true->n*10^s.length<=s.foldl (fun n c=>10*n+((c.toNat:Int)-48)) n/\s.foldl (fun n c=>10*n+((c.toNat:Int)-48)) n<(n+1)*10^s.length:=by
 intro s
 induction s with
 |nil=>intro n h _;simp;omega
 |cons c s ih=>
  intro n h hs
  rw[List.all_cons,fG] at hs
  have hd:=hs.1
  simp only[iJ,fG,eX] at hd
  have hp:0<(10:Int)^s.length:=Int.pow_pos (by omega)
  have:=ih (10*n+((c.toNat:Int)-48)) (by omega) hs.2
  rw[List.foldl_cons,List.length_cons,Int.pow_succ]
  have e1:n*(10^s.length*10)=(10*n)*10^s.length:=by rw[Int.mul_comm (10^s.length) 10, <-Int.mul_assoc,Int.mul_comm n 10]
  have e2:(n+1)*(10^s.length*10)=(10*(n+1))*10^s.length:=by rw[Int.mul_comm (10^s.length) 10, <-Int.mul_assoc,Int.mul_comm (n+1) 10]
  rw[e1,e2]
  have h1:(10*n)*10^s.length<=(10*n+((c.toNat:Int)-48))*10^s.length:=Int.mul_le_mul_of_nonneg_right (by omega) (by omega)
  have h2:(10*n+((c.toNat:Int)-48)+1)*10^s.length<=(10*(n+1))*10^s.length:=Int.mul_le_mul_of_nonneg_right (by omega) (by omega)
  omega
theorem Md {s:aF} {n:Int} (h:lu s=some n):0<=n/\n<=9999:=by
 unfold lu at h
 split at h
 ·rename_i hf
  obtain rfl:=jH h
  simp only[Aa,fG,eX] at hf
  have h1:=Lu s 0 (by omega) hf.2
  have h2:(10:Int)^s.length<=10000:=by
   have h3:=hf.1.1.1
   have h4:=hf.1.1.2
   clear h1 hf
   generalize s.length=k at*
   rcases(show k=1∨k=2∨k=3∨k=4 by omega) with rfl|rfl|rfl|rfl <;>decide
  unfold qp
  omega
 ·cases h
inductive iO where
 |row|left|tally|xP|mJ|rate|box|note|void|start|bQ|turn|pR|BM|unread|heap|strong|oL|fill|Bh|uZ
 deriving DecidableEq
def Nz:List iO:=[.row,.left,.tally,.xP,.mJ,.rate,.box,.note,.void,.start,.bQ,.turn,.pR,.BM,.unread,.heap,.strong,.oL,.fill,.Bh,.uZ]
def iO.word:iO->aF
 | .row=>[114,111,119]
 | .left=>[108,101,102,116]
 | .tally=>[116,97,108,108,121]
 | .xP=>[119,97,115,104]
 | .mJ=>[117,110,116,97,108,108,121]
 | .rate=>[114,97,116,101]
 | .box=>[98,111,120]
 | .note=>[110,111,116,101]
 | .void=>[118,111,105,100]
 | .start=>[115,116,97,114,116]
 | .bQ=>[119,101,116]
 | .turn=>[116,117,114,110]
 | .pR=>[117,110,116,117,114,110]
 | .BM=>[105,114,111,110]
 | .unread=>[117,110,114,101,97,100]
 | .heap=>[104,101,97,112]
 | .strong=>[115,116,114,111,110,103]
 | .oL=>[99,97,115,107]
 | .fill=>[102,105,108,108]
 | .Bh=>[116,114,121]
 | .uZ=>[117,110,116,114,121]
def iO.many:iO->Nat
 | .row=>0
 | .mJ| .rate| .void| .turn| .pR| .unread| .uZ=>1
 | .left| .box| .start| .heap| .oL=>2
 | .xP| .note| .bQ| .BM| .strong| .fill| .Bh=>3
 | .tally=>5
def uz (w:aF):Option iO:=Nz.find? fun c=>c.word==w
theorem Iu (c:iO):uz c.word=some c:=by cases c <;>decide
theorem Iw {w:aF} {c:iO} (h:uz w=some c):w=c.word:=by
 have:=List.find?_some h
 exact(beq_iff_eq.1 this).symm
theorem fM {w:aF} (h:uz w=none) (c:iO):w≠c.word:=by
 intro e
 rw[e,Iu] at h
 cases h
def kV:List aF->Option (List Int)
 |[]=>some []
 |p::ps=>(lu p).bind fun n=>(kV ps).map (n:: ·)
theorem Kt: ∀{ps:List aF} {n:List Int},kV ps=some n->n.length=ps.length:=by
 intro ps
 induction ps with
 |nil=>intro n h;obtain rfl:=jH h;rfl
 |cons p ps ih=>
  intro n h
  unfold kV at h
  cases hp:lu p with
  |none=>rw[hp] at h;cases h
  |some x=>
   cases hq:kV ps with
   |none=>rw[hp,hq] at h;cases h
   |some y=>
    rw[hp,hq] at h
    obtain rfl:=jH h
    simp[ih hq]
theorem ZQ: ∀{ps:List aF} {n:List Int},kV ps=some n-> ∀x∈n,0<=x/\x<=9999:=by
 intro ps
 induction ps with
 |nil=>intro n h x hx;obtain rfl:=jH h;cases hx
 |cons p ps ih=>
  intro n h x hx
  unfold kV at h
  cases hp:lu p with
  |none=>rw[hp] at h;cases h
  |some y=>
   cases hq:kV ps with
   |none=>rw[hp,hq] at h;cases h
   |some z=>
    rw[hp,hq] at h
    obtain rfl:=jH h
    rcases gK.1 hx with rfl|hx
    ·exact Md hp
    ·exact ih hq x hx
def pg (line:aF):Option (iO×List Int):=
 (uz ((bZ line).headD [])).bind fun c=>if(bZ line).tail.length=c.many then(kV (bZ line).tail).map fun n=>(c,n) else none
theorem tV {line:aF} {c:iO} {n:List Int} (h:pg line=some (c,n)):(bZ line).headD []=c.word/\n.length=c.many/\(∀x∈n,0<=x/\x<=9999)/\kV (bZ line).tail=some n:=by
 unfold pg at h
 cases hc:uz ((bZ line).headD []) with
 |none=>rw[hc] at h;cases h
 |some d=>
  rw[hc,Option.bind_some] at h
  split at h
  ·rename_i hl
   cases hn:kV (bZ line).tail with
   |none=>rw[hn] at h;cases h
   |some m=>
    rw[hn] at h
    obtain⟨rfl,rfl⟩:=Prod.mk.inj (jH h)
    exact⟨Iw hc,by rw[Kt hn,hl],ZQ hn,rfl⟩
  ·cases h
structure jA where
 led:aS
 heap:dn
 bP:bU
def eG:jA:=
 {led:={field:={rows:=3,aO:=2,left:=(0,3),au:=[]},rate:=10,box:=(0,2000),notes:=[]}
  heap:={last:=4,size:=10,bn:=50,die:=10,uT:=60,start:=(30,30),bQ:=List.replicate 5 (6,6),turns:=[],readings:=[]}
  bP:={heaps:=[(40,40)],aQ:=[],aJ:=[]}}
def LW (a b most:Int):Bool:=decide (a<=b)&&decide (b<=most)
def MF (a b most wide:Int):Bool:=decide (a<=b)&&decide (b<=most)&&decide (b<=a+wide)
def jk (last:Int) (p:Int->Bool):List Int:=((List.range (last+1).toNat).map fun(k:Nat)=>(k:Int)).filter p
def nG (s:jA) (l:List ND):jA:={s with led:={s.led with field:={s.led.field with au:=l}}}
def oP (s:jA) (l:List (Int×dY)):jA:={s with led:={s.led with notes:=l}}
def iT (s:jA) (h:dn):jA:={s with heap:=h}
def fQ (s:jA) (c:bU):jA:={s with bP:=c}
def iU (s:jA):iO->List Int->Int×jA
 | .row,_=>if 5<=s.led.field.rows then(3,s) else(0,{s with led:={s.led with field:={s.led.field with rows:=s.led.field.rows+1}}})
 | .left,n=>if LW (n.getD 0 0) (n.getD 1 0) s.led.field.rows=false then(2,s)
    else(0,{s with led:={s.led with field:={s.led.field with left:=(n.getD 0 0,n.getD 1 0)}}})
 | .tally,n=>if s.led.field.aO<=n.getD 0 0 then(7,s) else if s.led.field.rows<=n.getD 1 0∨s.led.field.rows<=n.getD 2 0 then(7,s)
    else if n.getD 2 0<n.getD 1 0 then(2,s) else if LW (n.getD 3 0) (n.getD 4 0) s.led.field.rows=false then(2,s)
    else if 5<=s.led.field.au.length then(3,s)
    else(0,nG s (s.led.field.au++[(n.getD 0 0,n.getD 1 0,n.getD 2 0,(n.getD 3 0,n.getD 4 0))]))
 | .xP,n=>if(s.led.field.au.length:Int)<=n.getD 0 0 then(7,s) else if LW (n.getD 1 0) (n.getD 2 0) s.led.field.rows=false then(2,s)
    else(0,nG s (s.led.field.au.set (n.getD 0 0).toNat
     (let t:=s.led.field.au.getD (n.getD 0 0).toNat (0,0,0,(0,0));(t.1,t.2.1,t.2.2.1,(n.getD 1 0,n.getD 2 0)))))
 | .mJ,n=>if(s.led.field.au.length:Int)<=n.getD 0 0 then(7,s) else(0,nG s (s.led.field.au.eraseIdx (n.getD 0 0).toNat))
 | .rate,n=>if n.getD 0 0=0∨50<n.getD 0 0 then(2,s) else(0,{s with led:={s.led with rate:=n.getD 0 0}})
 | .box,n=>if LW (n.getD 0 0) (n.getD 1 0) 2000=false then(2,s) else(0,{s with led:={s.led with box:=(n.getD 0 0,n.getD 1 0)}})
 | .note,n=>if s.led.field.aO<=n.getD 0 0 then(7,s) else if LW (n.getD 1 0) (n.getD 2 0) 2000=false then(2,s)
    else if 5<=s.led.notes.length then(3,s) else(0,oP s (s.led.notes++[(n.getD 0 0,(n.getD 1 0,n.getD 2 0))]))
 | .void,n=>if(s.led.notes.length:Int)<=n.getD 0 0 then(7,s) else(0,oP s (s.led.notes.eraseIdx (n.getD 0 0).toNat))
 | .start,n=>if MF (n.getD 0 0) (n.getD 1 0) 500 2=false then(2,s) else(0,iT s {s.heap with start:=(n.getD 0 0,n.getD 1 0)})
 | .bQ,n=>if s.heap.last<n.getD 0 0 then(7,s) else if MF (n.getD 1 0) (n.getD 2 0) 20 2=false then(2,s)
    else(0,iT s {s.heap with bQ:=s.heap.bQ.set (n.getD 0 0).toNat (n.getD 1 0,n.getD 2 0)})
 | .turn,n=>if s.heap.last<n.getD 0 0 then(7,s) else if s.heap.turns.contains (n.getD 0 0) then(6,s)
    else(0,iT s {s.heap with turns:=jk s.heap.last fun i=>i==n.getD 0 0 ||s.heap.turns.contains i})
 | .pR,n=>if s.heap.turns.contains (n.getD 0 0)=false then(7,s)
    else(0,iT s {s.heap with turns:=jk s.heap.last fun i=>i !=n.getD 0 0&&s.heap.turns.contains i})
 | .BM,n=>if s.heap.last<n.getD 0 0 then(7,s) else if 1000<n.getD 1 0∨50<n.getD 2 0 then(2,s)
    else if 5<=s.heap.readings.length then(3,s) else(0,iT s {s.heap with readings:=s.heap.readings++[(n.getD 0 0,n.getD 1 0,n.getD 2 0)]})
 | .unread,n=>if(s.heap.readings.length:Int)<=n.getD 0 0 then(7,s) else(0,iT s {s.heap with readings:=s.heap.readings.eraseIdx (n.getD 0 0).toNat})
 | .heap,n=>if MF (n.getD 0 0) (n.getD 1 0) 100 9=false then(2,s) else if 3<=s.bP.heaps.length then(3,s)
    else(0,fQ s {s.bP with heaps:=s.bP.heaps++[(n.getD 0 0,n.getD 1 0)],aQ:=s.bP.aQ.map (· ++[0])})
 | .strong,n=>if(s.bP.heaps.length:Int)<=n.getD 0 0 then(7,s) else if MF (n.getD 1 0) (n.getD 2 0) 100 9=false then(2,s)
    else(0,fQ s {s.bP with heaps:=s.bP.heaps.set (n.getD 0 0).toNat (n.getD 1 0,n.getD 2 0)})
 | .oL,n=>if(s.bP.heaps.length:Int)<=n.getD 0 0 then(7,s) else if n.getD 1 0=0∨30<n.getD 1 0 then(2,s)
    else if 3<=s.bP.aQ.length then(3,s)
    else(0,fQ s {s.bP with aQ:=s.bP.aQ++[(List.replicate s.bP.heaps.length 0).set (n.getD 0 0).toNat (n.getD 1 0)]})
 | .fill,n=>if(s.bP.aQ.length:Int)<=n.getD 0 0 then(7,s) else if(s.bP.heaps.length:Int)<=n.getD 1 0 then(7,s) else if 30<n.getD 2 0 then(2,s)
    else if((s.bP.aQ.getD (n.getD 0 0).toNat []).set (n.getD 1 0).toNat (n.getD 2 0)).any (fun x=>decide (0<x))=false then(8,s)
    else(0,fQ s {s.bP with aQ:=s.bP.aQ.set (n.getD 0 0).toNat ((s.bP.aQ.getD (n.getD 0 0).toNat []).set (n.getD 1 0).toNat (n.getD 2 0))})
 | .Bh,n=>if(s.bP.aQ.length:Int)<=n.getD 0 0 then(7,s) else if MF (n.getD 1 0) (n.getD 2 0) 100 100=false then(2,s)
    else if 5<=s.bP.aJ.length then(3,s) else(0,fQ s {s.bP with aJ:=s.bP.aJ++[(true,n.getD 0 0,(n.getD 1 0,n.getD 2 0))]})
 | .uZ,n=>if(s.bP.aJ.length:Int)<=n.getD 0 0 then(7,s) else(0,fQ s {s.bP with aJ:=s.bP.aJ.eraseIdx (n.getD 0 0).toNat})
structure fZ (s:jA):Prop where
 rows:3<=s.led.field.rows/\s.led.field.rows<=5
 aO:s.led.field.aO=2
 left:0<=s.led.field.left.1/\s.led.field.left.1<=s.led.field.left.2/\s.led.field.left.2<=s.led.field.rows
 Ah:s.led.field.au.length<=5
 uK: ∀t∈s.led.field.au,(0<=t.1/\t.1<2)/\(0<=t.2.1/\t.2.1<=t.2.2.1/\t.2.2.1<s.led.field.rows)/\(0<=t.2.2.2.1/\t.2.2.2.1<=t.2.2.2.2/\t.2.2.2.2<=s.led.field.rows)
 rate:1<=s.led.rate/\s.led.rate<=50
 box:0<=s.led.box.1/\s.led.box.1<=s.led.box.2/\s.led.box.2<=2000
 notes:s.led.notes.length<=5
 note: ∀t∈s.led.notes,(0<=t.1/\t.1<2)/\(0<=t.2.1/\t.2.1<=t.2.2/\t.2.2<=2000)
 heap:s.heap.last=4/\s.heap.size=10/\s.heap.bn=50/\s.heap.die=10/\s.heap.uT=60
 start:0<=s.heap.start.1/\s.heap.start.1<=s.heap.start.2/\s.heap.start.2<=500/\s.heap.start.2<=s.heap.start.1+2
 CY:s.heap.bQ.length=5
 bQ: ∀r∈s.heap.bQ,0<=r.1/\r.1<=r.2/\r.2<=20/\r.2<=r.1+2
 turns: ∃p,s.heap.turns=jk 4 p
 reads:s.heap.readings.length<=5
 read: ∀x∈s.heap.readings,(0<=x.1/\x.1<=4)/\(0<=x.2.1/\x.2.1<=1000)/\(0<=x.2.2/\x.2.2<=50)
 yT:1<=s.bP.heaps.length/\s.bP.heaps.length<=3
 bP: ∀r∈s.bP.heaps,0<=r.1/\r.1<=r.2/\r.2<=100/\r.2<=r.1+9
 aQ:s.bP.aQ.length<=3
 oL: ∀l∈s.bP.aQ,l.length=s.bP.heaps.length/\(∀x∈l,0<=x/\x<=30)/\0<mQ l
 aJ:s.bP.aJ.length<=5
 trial: ∀t∈s.bP.aJ,t.1=true/\(0<=t.2.1/\t.2.1<s.bP.aQ.length)/\(0<=t.2.2.1/\t.2.2.1<=t.2.2.2/\t.2.2.2<=100)
theorem IJ:fZ eG where
 rows:=by decide
 aO:=rfl
 left:=by decide
 Ah:=by decide
 uK:=fun _ h=>by cases h
 rate:=by decide
 box:=by decide
 notes:=by decide
 note:=fun _ h=>by cases h
 heap:=by decide
 start:=by decide
 CY:=rfl
 bQ:=fun r h=>by obtain rfl:=List.eq_of_mem_replicate h;decide
 turns:=⟨fun _=>false,by decide⟩
 reads:=by decide
 read:=fun _ h=>by cases h
 yT:=by decide
 bP:=fun r h=>by obtain rfl:=dZ.1 h;decide
 aQ:=by decide
 oL:=fun _ h=>by cases h
 aJ:=by decide
 trial:=fun _ h=>by cases h
theorem FX {n:List Int} (h: ∀x∈n,0<=x/\x<=9999) (i:Nat):0<=n.getD i 0/\n.getD i 0<=9999:=by
 by_cases hi:i<n.length
 ·rw[eY,dA hi,Option.getD_some];exact h _ (bT hi)
 ·rw[eY,List.getElem?_eq_none (by omega)];exact⟨by decide,by decide⟩
theorem wC {α:Type} {l:List α} {i:Nat} {x y:α} (h:y∈l.set i x):y=x∨y∈l:=by
 rcases List.mem_or_eq_of_mem_set h with h|h
 ·exact .inr h
 ·exact .inl h
theorem aci {l:List Int} (h: ∀x∈l,0<=x/\x<=30):0<=mQ l:=(FQ (by omega) h).1
theorem Gl {l:List Int} (h: ∀x∈l,0<=x/\x<=30):0<mQ l↔l.any (fun x=>decide (0<x))=true:=by
 induction l with
 |nil=>simp[mQ]
 |cons x l ih=>
  have h1:=h x (by simp)
  have h2:=aci (l:=l) (fun y hy=>h y (by simp[hy]))
  have h3:=ih (fun y hy=>h y (by simp[hy]))
  rw[List.any_cons,Bool.or_eq_true, <-h3,eX]
  simp only[mQ]
  omega
theorem RD (l:List Int):mQ (l++[0])=mQ l:=by rw[Oa];simp[mQ]
theorem qQ {a b m:Int}:LW a b m=true↔a<=b/\b<=m:=by simp[LW]
theorem qR {a b m w:Int}:MF a b m w=true↔a<=b/\b<=m/\b<=a+w:=by simp[MF,and_assoc]
theorem mem_erase {α:Type} {l:List α} {i:Nat} {x:α} (h:x∈l.eraseIdx i):x∈l:=List.mem_of_mem_eraseIdx h
theorem zD {α:Type} (l:List α) (i:Nat):(l.eraseIdx i).length<=l.length:=List.length_eraseIdx_le l i
theorem abr {s:jA} (hG:fZ s) (c:iO) {n:List Int} (hn: ∀x∈n,0<=x/\x<=9999) (h0:(iU s c n).1=0):fZ (iU s c n).2:=by
 have n0:=FX hn 0
 have n1:=FX hn 1
 have n2:=FX hn 2
 have n3:=FX hn 3
 cases c <;>simp only[iU] at h0⊢
 case row=>
  split at h0 <;>first|omega|skip
  rename_i h1
  rw[aj h1]
  have:=hG.rows;have:=hG.left
  exact {hG with rows:=by simp only;omega,left:=by simp only;omega,uK:=fun t ht=>by have:=hG.uK t ht;simp only at*;omega}
 case left=>
  split at h0 <;>first|omega|skip
  rename_i h1
  rw[aj h1]
  rw[Bool.not_eq_false,qQ] at h1
  exact {hG with left:=by simp only;omega}
 case tally=>
  repeat' (split at h0;· omega)
  rename_i h1 h2 h3 h4 h5
  rw[aj h1,aj h2,aj h3,aj h4,aj h5]
  rw[Bool.not_eq_false,qQ] at h4
  have hw:=hG.aO
  refine {hG with Ah:=by simp[nG];omega,uK:=fun t ht=>?_}
  rcases iE.1 ht with ht|ht
  ·exact hG.uK t ht
  ·obtain rfl:=dZ.1 ht
   simp only[nG];omega
 case xP=>
  repeat' (split at h0;· omega)
  rename_i h1 h2
  rw[aj h1,aj h2]
  rw[Bool.not_eq_false,qQ] at h2
  refine {hG with Ah:=by simp[nG];exact hG.Ah,uK:=fun t ht=>?_}
  rcases wC ht with rfl|ht
  ·have hk:(n.getD 0 0).toNat<s.led.field.au.length:=by omega
   have:=hG.uK _ (bT hk)
   rw[eY (l:=s.led.field.au),dA hk,Option.getD_some]
   simp only[nG];omega
  ·exact hG.uK t ht
 case mJ=>
  repeat' (split at h0;· omega)
  rename_i h1
  rw[aj h1]
  exact {hG with Ah:=jo (zD _ _) hG.Ah,uK:=fun t ht=>hG.uK t (mem_erase ht)}
 case rate=>
  repeat' (split at h0;· omega)
  rename_i h1
  rw[aj h1]
  exact {hG with rate:=by simp only;omega}
 case box=>
  repeat' (split at h0;· omega)
  rename_i h1
  rw[aj h1]
  rw[Bool.not_eq_false,qQ] at h1
  exact {hG with box:=by simp only;omega}
 case note=>
  repeat' (split at h0;· omega)
  rename_i h1 h2 h3
  rw[aj h1,aj h2,aj h3]
  rw[Bool.not_eq_false,qQ] at h2
  have hw:=hG.aO
  refine {hG with notes:=by simp[oP];omega,note:=fun t ht=>?_}
  rcases iE.1 ht with ht|ht
  ·exact hG.note t ht
  ·obtain rfl:=dZ.1 ht
   simp only;omega
 case void=>
  repeat' (split at h0;· omega)
  rename_i h1
  rw[aj h1]
  exact {hG with notes:=jo (zD _ _) hG.notes,note:=fun t ht=>hG.note t (mem_erase ht)}
 case start=>
  repeat' (split at h0;· omega)
  rename_i h1
  rw[aj h1]
  rw[Bool.not_eq_false,qR] at h1
  exact {hG with start:=by simp only[iT];omega}
 case bQ=>
  repeat' (split at h0;· omega)
  rename_i h1 h2
  rw[aj h1,aj h2]
  rw[Bool.not_eq_false,qR] at h2
  refine {hG with CY:=by simp[iT];exact hG.CY,bQ:=fun r hr=>?_}
  rcases wC hr with rfl|hr
  ·simp only;omega
  ·exact hG.bQ r hr
 case turn=>
  repeat' (split at h0;· omega)
  rename_i h1 h2
  rw[aj h1,aj h2]
  exact {hG with turns:=⟨_,by simp only[iT,hG.heap.1];rfl⟩}
 case pR=>
  repeat' (split at h0;· omega)
  rename_i h1
  rw[aj h1]
  exact {hG with turns:=⟨_,by simp only[iT,hG.heap.1];rfl⟩}
 case BM=>
  repeat' (split at h0;· omega)
  rename_i h1 h2 h3
  rw[aj h1,aj h2,aj h3]
  have hl:=hG.heap.1
  refine {hG with reads:=by simp[iT];omega,read:=fun t ht=>?_}
  rcases iE.1 ht with ht|ht
  ·exact hG.read t ht
  ·obtain rfl:=dZ.1 ht
   simp only;omega
 case unread=>
  repeat' (split at h0;· omega)
  rename_i h1
  rw[aj h1]
  exact {hG with reads:=jo (zD _ _) hG.reads,read:=fun t ht=>hG.read t (mem_erase ht)}
 case heap=>
  repeat' (split at h0;· omega)
  rename_i h1 h2
  rw[aj h1,aj h2]
  rw[Bool.not_eq_false,qR] at h1
  refine {hG with yT:=by simp[fQ];omega,bP:=fun r hr=>?_,aQ:=by simp[fQ];exact hG.aQ,oL:=fun l hl=>?_,trial:=fun t ht=>?_}
  ·rcases iE.1 hr with hr|hr
   ·exact hG.bP r hr
   ·obtain rfl:=dZ.1 hr
    simp only;omega
  ·obtain⟨m,hm,rfl⟩:=iV.1 hl
   have:=hG.oL m hm
   refine⟨by simp[fQ,this.1],fun x hx=>?_,by rw[RD];exact this.2.2⟩
   rcases iE.1 hx with hx|hx
   ·exact this.2.1 x hx
   ·obtain rfl:=dZ.1 hx;decide
  ·have:=hG.trial t ht
   simp only[fQ,lJ]
   exact this
 case strong=>
  repeat' (split at h0;· omega)
  rename_i h1 h2
  rw[aj h1,aj h2]
  rw[Bool.not_eq_false,qR] at h2
  refine {hG with yT:=by simp[fQ];exact hG.yT,bP:=fun r hr=>?_,oL:=fun l hl=>by simp[fQ];exact hG.oL l hl}
  rcases wC hr with rfl|hr
  ·simp only;omega
  ·exact hG.bP r hr
 case oL=>
  repeat' (split at h0;· omega)
  rename_i h1 h2 h3
  rw[aj h1,aj h2,aj h3]
  have hk:(n.getD 0 0).toNat<s.bP.heaps.length:=by omega
  have hx: ∀x∈(List.replicate s.bP.heaps.length (0:Int)).set (n.getD 0 0).toNat (n.getD 1 0),0<=x/\x<=30:=fun x hx=>by
   rcases wC hx with rfl|hx
   ·omega
   ·obtain rfl:=List.eq_of_mem_replicate hx;decide
  refine {hG with aQ:=by simp[fQ];omega,oL:=fun l hl=>?_,trial:=fun t ht=>?_}
  ·rcases iE.1 hl with hl|hl
   ·exact hG.oL l hl
   ·obtain rfl:=dZ.1 hl
    refine⟨by simp[fQ],hx,(Gl hx).2 ?_⟩
    rw[List.any_eq_true]
    exact⟨n.getD 1 0,List.mem_iff_getElem.2 ⟨(n.getD 0 0).toNat,by simpa using hk,List.getElem_set_self _⟩,decide_eq_true (by omega)⟩
  ·have:=hG.trial t ht
   simp only[fQ,dE,List.length_singleton]
   exact⟨this.1,by omega,this.2.2⟩
 case fill=>
  repeat' (split at h0;· omega)
  rename_i h1 h2 h3 h4
  rw[aj h1,aj h2,aj h3,aj h4]
  have hk:(n.getD 0 0).toNat<s.bP.aQ.length:=by omega
  have hb:=hG.oL _ (bT hk)
  rw[eY (l:=s.bP.aQ),dA hk,Option.getD_some] at h4⊢
  have hx: ∀x∈s.bP.aQ[(n.getD 0 0).toNat].set (n.getD 1 0).toNat (n.getD 2 0),0<=x/\x<=30:=fun x hx=>by
   rcases wC hx with rfl|hx
   ·omega
   ·exact hb.2.1 x hx
  refine {hG with aQ:=by simp[fQ];exact hG.aQ,oL:=fun l hl=>?_,trial:=fun t ht=>?_}
  ·rcases wC hl with rfl|hl
   ·exact⟨by rw[qH];exact hb.1,hx,(Gl hx).2 (by simpa using h4)⟩
   ·exact hG.oL l hl
  ·have:=hG.trial t ht
   simp only[fQ,qH]
   exact this
 case Bh=>
  repeat' (split at h0;· omega)
  rename_i h1 h2 h3
  rw[aj h1,aj h2,aj h3]
  rw[Bool.not_eq_false,qR] at h2
  refine {hG with aJ:=by simp[fQ];omega,trial:=fun t ht=>?_}
  rcases iE.1 ht with ht|ht
  ·exact hG.trial t ht
  ·obtain rfl:=dZ.1 ht
   exact⟨rfl,by simp only[fQ];omega,by simp only;omega⟩
 case uZ=>
  repeat' (split at h0;· omega)
  rename_i h1
  rw[aj h1]
  exact {hG with aJ:=jo (zD _ _) hG.aJ,trial:=fun t ht=>hG.trial t (mem_erase ht)}
end Go.Proofs.YthbpmepjmebolaaGreatDoor.Bk
end
section
namespace Go.Proofs.YthbpmepjmebolaaGreatDoor.Bk
open jC Go.Lib
abbrev D7 (k:Nat):UInt8:=UInt8.ofNat (48+k)
theorem qO {k:Nat} (h:k<10):(D7 k).toNat=48+k:=by simp[D7];omega
theorem XP {k:Nat} (h:k<10):iJ (D7 k)=true:=by
 simp only[iJ,qO h,fG,eX];omega
theorem aft {k:Nat} (h:k<10) (h1:1<=k):D7 k≠48:=fun e=>by
 have:=congrArg UInt8.toNat e
 rw[qO h] at this
 have h2:(48:UInt8).toNat=48:=by decide
 omega
theorem aa0 {c:UInt8} (h:iJ c=true): ∃k,k<10/\c=D7 k:=by
 simp only[iJ,fG,eX] at h
 refine⟨c.toNat-48,by omega,?_⟩
 apply UInt8.toNat_inj.1
 rw[qO (by omega)]
 omega
theorem XQ {k:Nat} (h:k<10):D7 k≠32:=fun e=>by
 have:=congrArg UInt8.toNat e
 rw[qO h] at this
 have h2:(32:UInt8).toNat=32:=by decide
 omega
theorem lg {u:Nat} (h:u<10):decDigits u=[D7 u]:=by rw[decDigits,dif_pos h]
theorem xu {u:Nat} (h: ¬u<10):decDigits u=decDigits (u/10)++[D7 (u%10)]:=by rw[decDigits,dif_neg h]
theorem PX: ∀u, ∀c∈decDigits u, ∃k,k<10/\c=D7 k:=by
 intro u
 induction u using Nat.strongRecOn with
 |_ u ih=>
  intro c hc
  by_cases h:u<10
  ·rw[lg h] at hc
   obtain rfl:=dZ.1 hc
   exact⟨u,h,rfl⟩
  ·rw[xu h] at hc
   rcases iE.1 hc with hc|hc
   ·exact ih _ (by omega) c hc
   ·obtain rfl:=dZ.1 hc
    exact⟨u%10,by omega,rfl⟩
theorem PW (u:Nat): ∀c∈decDigits u,c≠32:=fun c hc=>by
 obtain⟨k,hk,rfl⟩:=PX u c hc
 exact XQ hk
theorem aa7 (u:Nat):1<=(decDigits u).length:=by
 by_cases h:u<10
 ·rw[lg h];exact ai _
 ·rw[xu h];simp
theorem zh (s:aF) (c:UInt8):qp (s++[c])=10*qp s+((c.toNat:Int)-48):=by unfold qp;rw[List.foldl_append];rfl
theorem ab6 (u:Nat):qp (decDigits u)=u:=by
 induction u using Nat.strongRecOn with
 |_ u ih=>
  by_cases h:u<10
  ·rw[lg h]
   show 10*(0:Int)+(((D7 u).toNat:Int)-48)=u
   rw[qO h];omega
  ·rw[xu h,zh,ih _ (by omega),qO (by omega)]
   omega
theorem Ir: ∀(k u:Nat),u<10^(k+1)->(decDigits u).length<=k+1:=by
 intro k
 induction k with
 |zero=>intro u h;rw[lg (by omega)];exact ai _
 |succ k ih=>
  intro u h
  by_cases hu:u<10
  ·rw[lg hu];simp
  ·rw[xu hu,dE]
   have:=ih (u/10) (by rw[Nat.pow_succ] at h;omega)
   simp only[List.length_singleton]
   omega
theorem aiH (u:Nat):u<10^(decDigits u).length:=by
 induction u using Nat.strongRecOn with
 |_ u ih=>
  by_cases h:u<10
  ·rw[lg h];simpa using h
  ·rw[xu h,dE,List.length_singleton,Nat.pow_succ]
   have:=ih (u/10) (by omega)
   omega
theorem ade {u:Nat} (h1:1<=u):(decDigits u).headD 0≠48:=by
 induction u using Nat.strongRecOn with
 |_ u ih=>
  by_cases h:u<10
  ·rw[lg h];exact aft h h1
  ·rw[xu h]
   have h2:=ih (u/10) (by omega) (by omega)
   have h3:=aa7 (u/10)
   cases hd:decDigits (u/10) with
   |nil=>rw[hd] at h3;simp at h3
   |cons a l=>rw[hd] at h2;exact h2
theorem Vj {u:Nat} (h:u<10000):lu (decDigits u)=some (u:Int):=by
 have h1:=aa7 u
 have h2:=Ir 3 u (by simpa using h)
 have h3:(decDigits u).all iJ=true:=by
  rw[jS]
  intro c hc
  obtain⟨k,hk,rfl⟩:=PX u c hc
  exact XP hk
 unfold lu
 rw[aC,ab6]
 unfold Aa
 rw[h3,decide_eq_true h1,decide_eq_true h2]
 by_cases hu:u=0
 ·subst hu;rw[lg (by omega)];decide
 ·rw[decide_eq_true (ade (u:=u) (by omega))];rfl
theorem adb: ∀(k:Nat) (s:aF),s.length=k+1->s.all iJ=true->(s.headD 0≠48∨s.length=1)->decDigits (qp s).toNat=s:=by
 intro k
 induction k with
 |zero=>
  intro s hl hd _
  obtain⟨c,rfl⟩:=List.length_eq_one_iff.1 hl
  have hc:iJ c=true:=by simpa using hd
  obtain⟨j,hj,rfl⟩:=aa0 hc
  show decDigits (10*(0:Int)+(((D7 j).toNat:Int)-48)).toNat=_
  rw[qO hj,show(10*(0:Int)+(((48+j:Nat):Int)-48)).toNat=j from by omega,lg hj]
 |succ k ih=>
  intro s hl hd hh
  obtain⟨t,c,rfl⟩: ∃t c,s=t++[c]:=by
   rcases List.eq_nil_or_concat s with rfl|⟨t,c,rfl⟩
   ·simp at hl
   ·exact⟨t,c,by simp⟩
  have hl':t.length=k+1:=by simpa using hl
  rw[List.all_append,fG] at hd
  have hc:iJ c=true:=by simpa using hd.2
  obtain⟨j,hj,rfl⟩:=aa0 hc
  have hne:t.headD 0≠48:=by
   rcases hh with hh|hh
   ·cases t with
    |nil=>simp at hl'
    |cons a t=>exact hh
   ·rw[hl] at hh;omega
  have h1:=ih t hl' hd.1 (.inl hne)
  have hb:=Lu t 0 (by omega) hd.1
  have hpos:1<=qp t:=by
   have hnn:0<=qp t:=by unfold qp;omega
   by_cases hz:qp t=0
   ·rw[hz] at h1
    have h48:decDigits (0:Int).toNat=[48]:=by rw[show(0:Int).toNat=0 from rfl,lg (by omega)];rfl
    rw[h48] at h1
    rw[<-h1] at hne
    exact absurd rfl hne
   ·omega
  rw[zh,qO hj,xu (by omega)]
  rw[show(10*qp t+(((48+j:Nat):Int)-48)).toNat/10=(qp t).toNat from by omega,show(10*qp t+(((48+j:Nat):Int)-48)).toNat%10=j from by omega,h1]
theorem FT {s:aF} {v:Int} (h:lu s=some v):s=decDigits v.toNat/\s.length<=4:=by
 unfold lu at h
 split at h
 ·rename_i hf
  obtain rfl:=jH h
  simp only[Aa,fG,Bool.or_eq_true,eX] at hf
  obtain⟨⟨⟨h1,h2⟩,h3⟩,h4⟩:=hf
  exact⟨(adb (s.length-1) s (by omega) h4 h3).symm,h2⟩
 ·cases h
theorem PR {c:UInt8} (h:iJ c=true):digitVal c=some (c.toNat-48):=by
 simp only[iJ,fG,eX] at h
 unfold digitVal
 rw[aC h]
theorem Ui: ∀(s:aF) (acc:Nat),s.all iJ=true-> ∃m:Nat,decFrom acc s=some m/\(m:Int)=s.foldl (fun n c=>10*n+((c.toNat:Int)-48)) (acc:Int):=by
 intro s
 induction s with
 |nil=>intro acc _;exact⟨acc,rfl,rfl⟩
 |cons c s ih=>
  intro acc h
  rw[List.all_cons,fG] at h
  obtain⟨m,h1,h2⟩:=ih (acc*10+(c.toNat-48)) h.2
  have hd:=h.1
  simp only[iJ,fG,eX] at hd
  refine⟨m,by rw[decFrom,PR h.1];exact h1,?_⟩
  rw[h2,List.foldl_cons]
  congr 1
  omega
theorem Fa {s:aF} {v:Int} (h:lu s=some v):atoi s=some v:=by
 unfold lu at h
 split at h
 ·rename_i hf
  obtain rfl:=jH h
  simp only[Aa,fG,Bool.or_eq_true,eX] at hf
  obtain⟨⟨⟨h1,h2⟩,h3⟩,h4⟩:=hf
  cases s with
  |nil=>simp at h1
  |cons c s=>
   have hd:=h4
   rw[List.all_cons,fG] at hd
   have hc:=hd.1
   simp only[iJ,fG,eX] at hc
   have n45:(c==45)=false:=by
    rw[jI];rintro rfl;revert hc;decide
   have n43:(c==43)=false:=by
    rw[jI];rintro rfl;revert hc;decide
   obtain⟨m,e1,e2⟩:=Ui (c::s) 0 h4
   have e3:atoi (c::s)=(decNat (c::s)).map fun(m:Nat)=>(m:Int):=by
    simp only[atoi,n45,n43,Bool.false_eq_true,if_false]
   rw[e3]
   unfold decNat
   rw[aj (by simp),e1]
   exact congrArg some e2
 ·cases h
theorem OQ {s:aF} {v:Int} (h0:0<=v) (hl:s.length<=4) (he:itoa v=s):lu s=some v:=by
 unfold itoa at he
 rw[aj (by omega)] at he
 have h1:=aiH v.toNat
 rw[he] at h1
 have h2:v.toNat<10000:=fP h1 (by
  have:=Nat.pow_le_pow_right (show 0<10 by omega) hl
  simpa using this)
 have:=Vj h2
 rw[he] at this
 rw[this]
 congr 1
 omega
theorem aad {s:aF} {v:Int} (h:lu s=some v):itoa v=s:=by
 unfold itoa
 have:=(Md h).1
 rw[aj (by omega)]
 exact(FT h).1.symm
end Go.Proofs.YthbpmepjmebolaaGreatDoor.Bk
end
section
namespace Go.Proofs.YthbpmepjmebolaaGreatDoor.Bk
open jC Go.Lib Go.Proofs.YthbpmepjmebolaaGreatDoor.Be
section
variable (st : jA → Int)
def wJ (s:jA) (line:aF):jA×Int:=
 match pg line with
 |none=>(s,4)
 |some (c,n)=>if(iU s c n).1≠0 then(s,(iU s c n).1) else if st (iU s c n).2≠0 then(s,st (iU s c n).2) else((iU s c n).2,0)
def fB:jA->List aF->jA×List Int
 |s,[]=>(s,[])
 |s,l::ls=>((fB (wJ st s l).1 ls).1,(wJ st s l).2::(fB (wJ st s l).1 ls).2)
variable {st}
theorem Cb {s:jA} {line:aF} (h:pg line=none):wJ st s line=(s,4):=by unfold wJ;rw[h]
theorem zG {s:jA} {line:aF} {c:iO} {n:List Int} (h:pg line=some (c,n)):
 wJ st s line=if(iU s c n).1≠0 then(s,(iU s c n).1) else if st (iU s c n).2≠0 then(s,st (iU s c n).2) else((iU s c n).2,0):=by unfold wJ;rw[h]
theorem ad6 {s:jA} {line:aF} (h:(wJ st s line).2=0): ∃c n,pg line=some (c,n)/\(iU s c n).1=0/\st (iU s c n).2=0/\wJ st s line=((iU s c n).2,0):=by
 cases hp:pg line with
 |none=>rw[Cb hp] at h;cases h
 |some x=>
  obtain⟨c,n⟩:=x
  rw[zG hp] at h⊢
  split at h
  ·rename_i h1;exact absurd h h1
  ·rename_i h1
   split at h
   ·rename_i h2;exact absurd h h2
   ·rename_i h2
    rw[aj h1,aj h2]
    exact⟨c,n,rfl,by simpa using h1,by simpa using h2,rfl⟩
theorem ad7 {s:jA} {line:aF} (h:(wJ st s line).2≠0):(wJ st s line).1=s:=by
 cases hp:pg line with
 |none=>rw[Cb hp]
 |some x=>
  obtain⟨c,n⟩:=x
  rw[zG hp] at h⊢
  split
  ·rfl
  ·rename_i h1
   split
   ·rfl
   ·rename_i h2
    rw[aj h1,aj h2] at h
    exact absurd rfl h
theorem ac9 {s:jA} (hG:fZ s) (line:aF):fZ (wJ st s line).1:=by
 by_cases h:(wJ st s line).2=0
 ·obtain⟨c,n,h1,h2,_,h4⟩:=ad6 h
  rw[h4]
  exact abr hG c (tV h1).2.2.1 h2
 ·rw[ad7 h];exact hG
theorem XN {s:jA} (hs:st s=0) (line:aF):st (wJ st s line).1=0:=by
 by_cases h:(wJ st s line).2=0
 ·obtain⟨c,n,_,_,h3,h4⟩:=ad6 h
  rw[h4];exact h3
 ·rw[ad7 h];exact hs
theorem JZ: ∀(ls:List aF) {s:jA},fZ s->fZ (fB st s ls).1:=by
 intro ls
 induction ls with
 |nil=>intro s h;exact h
 |cons l ls ih=>intro s h;exact ih (ac9 h l)
theorem Oz: ∀(ls:List aF) {s:jA},st s=0->st (fB st s ls).1=0:=by
 intro ls
 induction ls with
 |nil=>intro s h;exact h
 |cons l ls ih=>intro s h;exact ih (XN h l)
theorem Gx: ∀(ls:List aF) (s:jA),(fB st s ls).2.length=ls.length:=by
 intro ls
 induction ls with
 |nil=>intro s;rfl
 |cons l ls ih=>intro s;simp[fB,ih]
theorem Gy: ∀(a b:List aF) (s:jA),fB st s (a++b)=((fB st (fB st s a).1 b).1,(fB st s a).2++(fB st (fB st s a).1 b).2):=by
 intro a
 induction a with
 |nil=>intro b s;rfl
 |cons x a ih=>intro b s;simp only[List.cons_append,fB,ih]
theorem WJ (ls:List aF) (l:aF) (s:jA):fB st s (ls++[l])=((wJ st (fB st s ls).1 l).1,(fB st s ls).2++[(wJ st (fB st s ls).1 l).2]):=by
 rw[Gy];rfl
end
def iC (w:aF) (ns:List Nat):aF:=ns.foldl (fun l k=>l++(32::decDigits k)) w
theorem Q9 (a:aF) (k:Nat):bZ (a++(32::decDigits k))=bZ a++[decDigits k]:=by
 induction a with
 |nil=>rw[List.nil_append,show bZ (32::decDigits k)=[]::bZ (decDigits k) from by rw[bZ,aC rfl],F9 _ (PW k)];rfl
 |cons c a ih=>
  rw[List.cons_append,bZ,bZ,ih]
  split
  ·rfl
  ·cases hw:bZ a with
   |nil=>exact absurd hw (kQ a)
   |cons x y=>rfl
theorem NU: ∀(ns:List Nat) (w:aF),bZ (iC w ns)=bZ w++ns.map decDigits:=by
 intro ns
 induction ns with
 |nil=>intro w;simp[iC]
 |cons k ns ih=>
  intro w
  show bZ (iC (w++(32::decDigits k)) ns)=_
  rw[ih,Q9]
  simp
theorem ZP: ∀(ns:List Nat),(∀k∈ns,k<10000)->kV (ns.map decDigits)=some (ns.map fun(k:Nat)=>(k:Int)):=by
 intro ns
 induction ns with
 |nil=>intro _;rfl
 |cons k ns ih=>
  intro h
  rw[List.map_cons,List.map_cons,kV,Vj (h k (by simp)),Option.bind_some,ih (fun x hx=>h x (by simp[hx]))]
  rfl
theorem Jb (c:iO): ∀x∈c.word,x≠32:=by cases c <;>decide
theorem Su (c:iO) (ns:List Nat) (hl:ns.length=c.many) (h: ∀k∈ns,k<10000):pg (iC c.word ns)=some (c,ns.map fun(k:Nat)=>(k:Int)):=by
 unfold pg
 rw[NU,F9 _ (Jb c)]
 simp only[List.singleton_append,List.headD_cons,List.tail_cons,Iu,Option.bind_some,lJ]
 rw[aC hl,ZP ns h]
 rfl
end Go.Proofs.YthbpmepjmebolaaGreatDoor.Bk
end
section
namespace Go.Proofs.YthbpmepjmebolaaGreatDoor.Bk
open jC Go.Lib Go.Proofs.YthbpmepjmebolaaGreatDoor.Be
theorem zA {last:Int} {p:Int->Bool} {i:Int}:i∈jk last p↔(0<=i/\i<=last)/\p i=true:=by
 unfold jk
 rw[List.mem_filter,iV]
 constructor
 ·rintro⟨⟨k,hk,rfl⟩,hp⟩
  have:=mD.1 hk
  exact⟨by omega,hp⟩
 ·rintro⟨h,hp⟩
  exact⟨⟨i.toNat,mD.2 (by omega),by omega⟩,hp⟩
variable {st : jA → Int}
def lN (s:jA) (k:Nat):List aF:=
 [iC iO.left.word [s.led.field.left.1.toNat,s.led.field.left.2.toNat],iC iO.rate.word [s.led.rate.toNat],iC iO.box.word [s.led.box.1.toNat,s.led.box.2.toNat],iC iO.start.word [s.heap.start.1.toNat,s.heap.start.2.toNat]]
 ++(if 0<s.led.field.au.length then[iC iO.xP.word [k%s.led.field.au.length,
    (s.led.field.au.getD (k%s.led.field.au.length) (0,0,0,(0,0))).2.2.2.1.toNat,(s.led.field.au.getD (k%s.led.field.au.length) (0,0,0,(0,0))).2.2.2.2.toNat]] else[])
 ++(if 0<s.heap.bQ.length then[iC iO.bQ.word [k%s.heap.bQ.length,(s.heap.bQ.getD (k%s.heap.bQ.length) (0,0)).1.toNat,(s.heap.bQ.getD (k%s.heap.bQ.length) (0,0)).2.toNat]] else[])
 ++(if 0<s.bP.heaps.length then[iC iO.strong.word [k%s.bP.heaps.length,(s.bP.heaps.getD (k%s.bP.heaps.length) (0,0)).1.toNat,(s.bP.heaps.getD (k%s.bP.heaps.length) (0,0)).2.toNat]] else[])
 ++(if 0<s.bP.aQ.length/\0<s.bP.heaps.length/\(s.bP.aQ.getD (k%s.bP.aQ.length) []).length=s.bP.heaps.length then
    [iC iO.fill.word [k%s.bP.aQ.length,k%s.bP.heaps.length,((s.bP.aQ.getD (k%s.bP.aQ.length) []).getD (k%s.bP.heaps.length) 0).toNat]] else[])
theorem oU {s:jA} (hs:st s=0) {c:iO} {ns:List Nat} (hl:ns.length=c.many) (h: ∀k∈ns,k<10000) (ha:iU s c (ns.map fun(k:Nat)=>(k:Int))=(0,s)):wJ st s (iC c.word ns)=(s,0):=by
 rw[zG (Su c ns hl h),ha]
 simp[hs]
theorem WL {s:jA}: ∀{ls:List aF},(∀l∈ls,wJ st s l=(s,0))->(fB st s ls).1=s/\ ∀e∈(fB st s ls).2,e=0:=by
 intro ls
 induction ls with
 |nil=>intro _;exact⟨rfl,fun e h=>by cases h⟩
 |cons l ls ih=>
  intro h
  have h1:=h l (by simp)
  have h2:=ih (fun x hx=>h x (by simp[hx]))
  simp only[fB,h1]
  exact⟨h2.1,fun e he=>by
   rcases gK.1 he with rfl|he
   ·rfl
   ·exact h2.2 e he⟩
theorem yt {α:Type} {l:List α} {i:Nat} (hi:i<l.length) (d:α):l.set i (l.getD i d)=l:=by
 rw[eY,dA hi,Option.getD_some,List.set_getElem_self]
theorem UE {s:jA} (hG:fZ s) (hs:st s=0) (k:Nat): ∀l∈lN s k,wJ st s l=(s,0):=by
 intro l hl
 have b3: ∀{a b c:Nat},a<10000->b<10000->c<10000-> ∀k∈[a,b,c],k<10000:=fun h1 h2 h3 k hk=>by simp at hk;omega
 unfold lN at hl
 simp only[iE,gK,List.not_mem_nil,or_false] at hl
 have gl:=hG.left;have gr:=hG.rows;have gra:=hG.rate;have gb:=hG.box;have gs:=hG.start
 rcases hl with(((((rfl|rfl|rfl|rfl)|hl)|hl)|hl)|hl)
 ·refine oU hs rfl (fun k hk=>by simp at hk;omega) ?_
  simp only[iU,List.map_cons,List.map_nil,dB]
  rw[aj (by rw[Bool.not_eq_false,qQ];omega),show((s.led.field.left.1.toNat:Nat):Int)=s.led.field.left.1 from by omega,show((s.led.field.left.2.toNat:Nat):Int)=s.led.field.left.2 from by omega]
 ·refine oU hs rfl (fun k hk=>by simp at hk;omega) ?_
  simp only[iU,List.map_cons,List.map_nil,List.getD_cons_zero]
  rw[aj (by omega),show((s.led.rate.toNat:Nat):Int)=s.led.rate from by omega]
 ·refine oU hs rfl (fun k hk=>by simp at hk;omega) ?_
  simp only[iU,List.map_cons,List.map_nil,dB]
  rw[aj (by rw[Bool.not_eq_false,qQ];omega),show((s.led.box.1.toNat:Nat):Int)=s.led.box.1 from by omega,show((s.led.box.2.toNat:Nat):Int)=s.led.box.2 from by omega]
 ·refine oU hs rfl (fun k hk=>by simp at hk;omega) ?_
  simp only[iU,List.map_cons,List.map_nil,dB]
  rw[aj (by rw[Bool.not_eq_false,qR];omega),show((s.heap.start.1.toNat:Nat):Int)=s.heap.start.1 from by omega,show((s.heap.start.2.toNat:Nat):Int)=s.heap.start.2 from by omega]
  rfl
 ·split at hl
  ·rename_i hp
   obtain rfl:=dZ.1 hl
   have hk:=Nat.mod_lt k hp
   have h5:=hG.Ah
   have ht:=hG.uK _ (bT hk)
   have e:s.led.field.au.getD (k%s.led.field.au.length) (0,0,0,(0,0))=s.led.field.au[k%s.led.field.au.length]:=by rw[eY,dA hk,Option.getD_some]
   rw[e]
   generalize hx:s.led.field.au[k%s.led.field.au.length]=x at*
   refine oU hs rfl (b3 (by omega) (by omega) (by omega)) ?_
   simp only[iU,List.map_cons,List.map_nil,dB,Int.toNat_natCast]
   rw[aj (by omega),aj (by rw[Bool.not_eq_false,qQ];omega),e,show((x.2.2.2.1.toNat:Nat):Int)=x.2.2.2.1 from by omega,show((x.2.2.2.2.toNat:Nat):Int)=x.2.2.2.2 from by omega]
   have:=yt hk (0,0,0,(0,0))
   rw[e] at this
   rw[show(x.1,x.2.1,x.2.2.1,(x.2.2.2.1,x.2.2.2.2))=x from rfl,this]
   rfl
  ·cases hl
 ·split at hl
  ·rename_i hp
   obtain rfl:=dZ.1 hl
   have hk:=Nat.mod_lt k hp
   have h5:=hG.CY
   have hla:=hG.heap.1
   have ht:=hG.bQ _ (bT hk)
   have e:s.heap.bQ.getD (k%s.heap.bQ.length) (0,0)=s.heap.bQ[k%s.heap.bQ.length]:=by rw[eY,dA hk,Option.getD_some]
   rw[e]
   have:=yt hk (0,0)
   rw[e] at this
   generalize hx:s.heap.bQ[k%s.heap.bQ.length]=x at*
   refine oU hs rfl (b3 (by omega) (by omega) (by omega)) ?_
   simp only[iU,List.map_cons,List.map_nil,dB,Int.toNat_natCast]
   rw[aj (by omega),aj (by rw[Bool.not_eq_false,qR];omega),show((x.1.toNat:Nat):Int)=x.1 from by omega,show((x.2.toNat:Nat):Int)=x.2 from by omega,show(x.1,x.2)=x from rfl,this]
   rfl
  ·cases hl
 ·split at hl
  ·rename_i hp
   obtain rfl:=dZ.1 hl
   have hk:=Nat.mod_lt k hp
   have h5:=hG.yT
   have ht:=hG.bP _ (bT hk)
   have e:s.bP.heaps.getD (k%s.bP.heaps.length) (0,0)=s.bP.heaps[k%s.bP.heaps.length]:=by rw[eY,dA hk,Option.getD_some]
   rw[e]
   have:=yt hk (0,0)
   rw[e] at this
   generalize hx:s.bP.heaps[k%s.bP.heaps.length]=x at*
   refine oU hs rfl (b3 (by omega) (by omega) (by omega)) ?_
   simp only[iU,List.map_cons,List.map_nil,dB,Int.toNat_natCast]
   rw[aj (by omega),aj (by rw[Bool.not_eq_false,qR];omega),show((x.1.toNat:Nat):Int)=x.1 from by omega,show((x.2.toNat:Nat):Int)=x.2 from by omega,show(x.1,x.2)=x from rfl,this]
   rfl
  ·cases hl
 ·split at hl
  ·rename_i hp
   obtain rfl:=dZ.1 hl
   obtain⟨hp1,hp2,hp3⟩:=hp
   have hk:=Nat.mod_lt k hp1
   have hj:=Nat.mod_lt k hp2
   have h5:=hG.aQ
   have h6:=hG.yT
   have ht:=hG.oL _ (bT hk)
   have e:s.bP.aQ.getD (k%s.bP.aQ.length) []=s.bP.aQ[k%s.bP.aQ.length]:=by rw[eY,dA hk,Option.getD_some]
   have hs1:=yt hk []
   rw[e] at hs1 hp3⊢
   generalize hx:s.bP.aQ[k%s.bP.aQ.length]=x at*
   have hs2:=yt (l:=x) (i:=k%s.bP.heaps.length) (by omega) 0
   have hb:=ht.2.1 _ (bT (show k%s.bP.heaps.length<x.length by omega))
   have e2:x.getD (k%s.bP.heaps.length) 0=x[k%s.bP.heaps.length]'(by omega):=by rw[eY,dA (by omega),Option.getD_some]
   rw[e2] at hs2⊢
   generalize x[k%s.bP.heaps.length]'(by omega)=y at*
   refine oU hs rfl (b3 (by omega) (by omega) (by omega)) ?_
   simp only[iU,List.map_cons,List.map_nil,dB,Int.toNat_natCast]
   rw[aj (by omega),aj (by omega),aj (by omega),show((y.toNat:Nat):Int)=y from by omega,e,hs2,aj (by rw[(Gl ht.2.1).1 ht.2.2];simp),hs1]
   rfl
  ·cases hl
end Go.Proofs.YthbpmepjmebolaaGreatDoor.Bk
end
section
namespace Go.Proofs.YthbpmepjmebolaaGreatDoor.Bk
open Go.RowKit Go.RG Go.SL Go.Shelf jC Go.TB
def dN (l:List Bool):List Value:=l.map fun b=> .bool b
abbrev CV (w:World) (v:Value) (l:List Bool):Prop:=aK 1 w v l.length (dN l)
theorem CV.cell {w:World} {o:Option Addr} {n c:Nat} {l:List Bool} (h:aK 1 w (.slice o n c) n (dN l)) {k:Nat} (hk:k<l.length): ∃b off,o=some ⟨b,off,none⟩/\b<w.heap.size/\w.cell? ⟨b,off+k,none⟩=some (.bool l[k]):=by
 obtain⟨hl,o',c',hv,h1,h2,h3,h4⟩:=h
 cases hv
 have hlen:(dN l).length=l.length:=by simp[dN]
 cases o with
 |none=>have:=h3 rfl;omega
 |some a=>
  obtain⟨b,off,sp⟩:=a
  obtain⟨hs,hc⟩:=h4 _ rfl
  simp only at hs hc
  subst hs
  have h0:=hc k (.bool l[k]) (by simp[dN,hk])
  exact⟨b,off,rfl,dP w _ h0,h0⟩
theorem Jw (l:List Bool) (v:Value) (w:World) (hv:CV w v l):Calls Tryz.prog 197 #[v,.bool true] w (PV (.bool (l.contains true)) w):=by
 have hidx:Calls Tryz.prog 263 #[v,.bool true] w (fun e w'=>w=w'/\((l.contains true=true/\ ∃k:Nat,k<l.length/\e= .returned (iv k))∨(l.contains true=false/\e= .returned (iv (-1))))):=by
  have hlen:=aK.len hv
  obtain⟨o,c,rfl⟩:=aK.open hv
  have HV:=ae hv
  clear hv
  go_enter Tryz.func263,Tryz.ntmps263
  go_wp2
  go_loop [4,5,8] (fun _ _ i=> ∃k:Nat,k<=l.length/\i= .int .i64 k/\(∀j (hj:j<l.length),j<k->l[j]=false)) (fun _ _ i=>l.length-(intOf i).toNat)
  case atStart=>exact⟨0,bW _,rfl,fun j _ hj=>by omega⟩
  case round=>
   obtain⟨k,hk,rfl,hno⟩:=hrel
   have HN:=ae hno
   clear hno
   by_cases hlt:k<l.length
   ·obtain⟨b,off,rfl,hb,hc0⟩:=CV.cell HV.o hlt
    cases he:l[k]
    ·rw[he] at hc0
     have HE:=ae he
     clear he
     go_wp2
     go_round
     case rel=>exact⟨k+1,by omega,by go_num,fun j hj hjk=>(by by_cases e:j=k;(subst e;exact HE.o);exact HN.o j hj (by omega))⟩
     case measure=>simp[intOf];omega
    ·rw[he] at hc0
     have HE:=ae he
     clear he
     go_wp2
     go_returns
     exact⟨rfl,.inl ⟨by first|exact HE.o▸bT hlt|(rw[List.contains_iff_mem, <-HE.o];exact bT _),k,hlt,by simp⟩⟩
   ·have hkl:k=l.length:=by omega
    go_wp2
    go_returns
    refine⟨rfl,.inr ⟨?_,by simp⟩⟩
    (try rw[<-Bool.not_eq_true,List.contains_iff_mem])
    intro hm
    obtain⟨j,hj,e⟩:=mF hm
    have:=HN.o j hj (by omega)
    rw[this] at e
    cases e
 have HI:=ae hidx
 clear hidx
 go_enter Tryz.func197,Tryz.ntmps197
 go_wp2_with fail
 refine HI.o.mono ?_
 rintro e w' ⟨rfl,⟨hc,k,hk,rfl⟩|⟨hc,rfl⟩⟩
 ·have HC:=ae hc
  clear hc
  go_wp2_with fail
  go_returns
  exact⟨by rw[HC.o];simp,aG _ _⟩
 ·have HC:=ae hc
  clear hc
  go_wp2_with fail
  go_returns
  exact⟨by rw[HC.o];simp,aG _ _⟩
abbrev kG (code:Int):List PanicEntry:=[{v:= .iface 200 (.agg #[iv code]),recovered:=false}]
def UK (code:Int) (c:Bool) (w:World) (e:Ending) (w':World):Prop:=
 Below w.heap.size w w'/\((c=false/\e= .returned (.tuple #[]))∨(c=true/\e= .panicked (kG code)))
theorem RU (code:Int) (l:List Bool) (v:Value) (w:World) (hv:CV w v l):Calls Tryz.prog 112 #[iv code,v] w (UK code (l.contains true) w):=by
 have H:=ae (Jw l v w hv)
 obtain⟨o,c,rfl⟩:=aK.open hv
 clear hv
 cases hq:l.contains true
 ·rw[hq] at H
  clear hq
  go_enter Tryz.func112,Tryz.ntmps112
  go_wp2_with fail
  refine H.o.mono ?_
  rintro e w' ⟨rfl,hb⟩
  go_wp2_with fail
  go_end0
  exact⟨hb,.inl ⟨rfl,by simp⟩⟩
 ·rw[hq] at H
  clear hq
  go_enter Tryz.func112,Tryz.ntmps112
  go_wp2_with fail
  refine H.o.mono ?_
  rintro e w' ⟨rfl,hb⟩
  go_wp2_with fail
  exact⟨rfl,hb,.inr ⟨rfl,rfl⟩⟩
def gU:iO->Nat
 | .row=>176
 | .left=>177
 | .tally=>178
 | .xP=>179
 | .mJ=>180
 | .rate=>181
 | .box=>182
 | .note=>183
 | .void=>184
 | .start=>185
 | .bQ=>186
 | .turn=>187
 | .pR=>188
 | .BM=>189
 | .unread=>190
 | .heap=>191
 | .strong=>192
 | .oL=>193
 | .fill=>194
 | .Bh=>195
 | .uZ=>196
abbrev WE:=Nat×Nat
abbrev wev (e:WE):Value:= .agg #[iv e.1,.func (.func e.2) #[] #[]]
abbrev V8 (s:ByteArray):Value:= .string s
abbrev ik (c:iO):ByteArray:=⟨c.word.toArray⟩
def Ry:List (ByteArray×WE):=Nz.map fun c=>(ik c,(c.many,gU c))
theorem Z5 (s:ByteArray): ∀l:List iO,TB.look s (l.map fun c=>(ik c,(c.many,gU c)))=(l.find? fun c=>c.word==s.data.toList).map fun c=>(c.many,gU c):=by
 intro l
 induction l with
 |nil=>rfl
 |cons c l ih=>
  rw[List.map_cons,TB.look,List.find?_cons,ih]
  by_cases h:s=ik c
  ·subst h
   have:(c.word==(ik c).data.toList)=true:=by simp[ik]
   rw[aC rfl,this]
   rfl
  ·have:(c.word==s.data.toList)=false:=by
    rw[jI]
    intro e
    refine h ?_
    cases s with
    |mk a=>simp only[ik] at*;rw[e]
   rw[aj h,this]
theorem Z4 (s:ByteArray):TB.look s Ry=(uz s.data.toList).map fun c=>(c.many,gU c):=Z5 s Nz
theorem KR (k:TypeId) (hk:Tryz.prog.underlying k=some .string) (a b:ByteArray) (w:World):(Op.equal k (.string a) (.string b)).run Tryz.prog w= .ok (decide (a=b)) w:=by
 unfold Op.equal Op.maxDepth
 simp only[go_sem,hk]
 rw[show(a.toList==b.toList)=decide (a=b) from by rw[Bool.eq_iff_iff,Lib.bytes_beq_iff,eX]]
theorem SH (k:TypeId) (hk:Tryz.prog.underlying k=some .string) (x:Value) (w:World): ∀(es:List MapEntry) (i:Nat) (r:Option (Nat×Value)),Instr.findNow .string x es i=some r->(Instr.findAsking k x es i).run Tryz.prog w= .ok r w:=by
 intro es
 induction es with
 |nil=>intro i r h;simp only[Instr.findNow,Option.some.injEq] at h;subst h;rfl
 |cons e es ih=>
  intro i r h
  unfold Instr.findNow at h
  cases hs:Instr.sameNow .string x e.key with
  |none=>rw[hs] at h;cases h
  |some b=>
   rw[hs] at h
   obtain⟨a,c,hx,hc,hb⟩: ∃a c:ByteArray,x= .string a/\e.key= .string c/\b=decide (a=c):=by
    revert hs
    cases x <;>cases e.key <;>simp[Instr.sameNow]
    rename_i a c
    intro h
    rw[<-h]
    rw[Bool.eq_iff_iff,Go.MapKept.bytes_beq,eX]
   subst hx
   conv=>lhs;unfold Instr.findAsking
   simp only[Sem.run_bind,hc,KR k hk a c w,Result.andThen_ok]
   cases b
   ·rw[<-hb]
    simp only[Bool.false_eq_true,if_false]
    exact ih (i+1) r h
   ·rw[<-hb]
    simp only[Option.some.injEq] at h
    subst h
    simp
theorem uN:YH Tryz.prog 9 V8 (fun _=>True) where
 find w x es:=by
  have hk:Tryz.prog.underlying 9=some .string:=by kernel_rfl
  cases hn:Instr.findNow .string x es 0 with
  |none=>simp[Instr.findKey,run_underlying hk,hn]
  |some r=>
   rw[SH 9 hk x w es 0 r hn]
   simp[Instr.findKey,run_underlying hk,hn]
 check b a w _:=by
  unfold Instr.checkKey
  simp[go_sem]
 eq a b w _ _:=KR _ (by kernel_rfl) a b w
 bits a _:=by simp only[Instr.sameBits];exact(Go.MapKept.bytes_beq a a).2 rfl
theorem acb:TB.store (ik .uZ) (iO.many .uZ,gU .uZ) (TB.store (ik .Bh) (iO.many .Bh,gU .Bh) (TB.store (ik .fill) (iO.many .fill,gU .fill) (TB.store (ik .oL) (iO.many .oL,gU .oL) (TB.store (ik .strong) (iO.many .strong,gU .strong) (TB.store (ik .heap) (iO.many .heap,gU .heap) (TB.store (ik .unread) (iO.many .unread,gU .unread) (TB.store (ik .BM) (iO.many .BM,gU .BM) (TB.store (ik .pR) (iO.many .pR,gU .pR) (TB.store (ik .turn) (iO.many .turn,gU .turn) (TB.store (ik .bQ) (iO.many .bQ,gU .bQ) (TB.store (ik .start) (iO.many .start,gU .start) (TB.store (ik .void) (iO.many .void,gU .void) (TB.store (ik .note) (iO.many .note,gU .note) (TB.store (ik .box) (iO.many .box,gU .box) (TB.store (ik .rate) (iO.many .rate,gU .rate) (TB.store (ik .mJ) (iO.many .mJ,gU .mJ) (TB.store (ik .xP) (iO.many .xP,gU .xP) (TB.store (ik .tally) (iO.many .tally,gU .tally) (TB.store (ik .left) (iO.many .left,gU .left) (TB.store (ik .row) (iO.many .row,gU .row) ([])))))))))))))))))))))=Ry:=by
 decide+kernel
def afL (w:World) (e:Ending) (w':World):Prop:= ∃mb,e= .returned (.map (some mb))/\w.heap.size<=mb/\TabAt V8 wev (fun _=>True) w' mb Ry/\Below w.heap.size w w'
theorem VX (w:World):Calls Tryz.prog 111 #[] w (afL w):=by
 have hmm:= @run_makeMap Tryz.prog
 have hm:Tryz.prog.underlying 206=some (.map 9 204):=by kernel_rfl
 have h0:TabAt V8 wev (fun _=>True) (w.alloc (.map #[] 0)) w.heap.size []:=MC (ay _ _)
 obtain⟨W1,r1,t1,e1⟩:=fV uN hm h0 (ik .row) trivial (iO.many .row,gU .row)
 obtain⟨W2,r2,t2,e2⟩:=fV uN hm t1 (ik .left) trivial (iO.many .left,gU .left)
 obtain⟨W3,r3,t3,e3⟩:=fV uN hm t2 (ik .tally) trivial (iO.many .tally,gU .tally)
 obtain⟨W4,r4,t4,e4⟩:=fV uN hm t3 (ik .xP) trivial (iO.many .xP,gU .xP)
 obtain⟨W5,r5,t5,e5⟩:=fV uN hm t4 (ik .mJ) trivial (iO.many .mJ,gU .mJ)
 obtain⟨W6,r6,t6,e6⟩:=fV uN hm t5 (ik .rate) trivial (iO.many .rate,gU .rate)
 obtain⟨W7,r7,t7,e7⟩:=fV uN hm t6 (ik .box) trivial (iO.many .box,gU .box)
 obtain⟨W8,r8,t8,e8⟩:=fV uN hm t7 (ik .note) trivial (iO.many .note,gU .note)
 obtain⟨W9,r9,t9,e9⟩:=fV uN hm t8 (ik .void) trivial (iO.many .void,gU .void)
 obtain⟨FK,r10,t10,e10⟩:=fV uN hm t9 (ik .start) trivial (iO.many .start,gU .start)
 obtain⟨W11,r11,t11,e11⟩:=fV uN hm t10 (ik .bQ) trivial (iO.many .bQ,gU .bQ)
 obtain⟨Y4,r12,t12,e12⟩:=fV uN hm t11 (ik .turn) trivial (iO.many .turn,gU .turn)
 obtain⟨W13,r13,t13,e13⟩:=fV uN hm t12 (ik .pR) trivial (iO.many .pR,gU .pR)
 obtain⟨VI,r14,t14,e14⟩:=fV uN hm t13 (ik .BM) trivial (iO.many .BM,gU .BM)
 obtain⟨Yt,r15,t15,e15⟩:=fV uN hm t14 (ik .unread) trivial (iO.many .unread,gU .unread)
 obtain⟨W16,r16,t16,e16⟩:=fV uN hm t15 (ik .heap) trivial (iO.many .heap,gU .heap)
 obtain⟨W17,r17,t17,e17⟩:=fV uN hm t16 (ik .strong) trivial (iO.many .strong,gU .strong)
 obtain⟨W18,r18,t18,e18⟩:=fV uN hm t17 (ik .oL) trivial (iO.many .oL,gU .oL)
 obtain⟨W19,r19,t19,e19⟩:=fV uN hm t18 (ik .fill) trivial (iO.many .fill,gU .fill)
 obtain⟨W20,r20,t20,e20⟩:=fV uN hm t19 (ik .Bh) trivial (iO.many .Bh,gU .Bh)
 obtain⟨W21,r21,t21,e21⟩:=fV uN hm t20 (ik .uZ) trivial (iO.many .uZ,gU .uZ)
 rw[acb] at t21
 have hE:Ext [w.heap.size] (w.alloc (.map #[] 0)) W21:=(e1.trans (e2.trans (e3.trans (e4.trans (e5.trans (e6.trans (e7.trans (e8.trans (e9.trans (e10.trans (e11.trans (e12.trans (e13.trans (e14.trans (e15.trans (e16.trans (e17.trans (e18.trans (e19.trans (e20.trans e21))))))))))))))))))))
 have HB:=ae (show Below w.heap.size w W21 from(ak (aG _ _) _).trans ⟨hE.os,hE.tape,hE.output,hE.size,fun b hb=>hE.block b (by simp;omega) (by simp;omega)⟩)
 have HT:=ae t21
 have HE:Hid (w.heap.size<=w.heap.size):=ae (ai _)
 clear h0 hE hm t1 t2 t3 t4 t5 t6 t7 t8 t9 t10 t11 t12 t13 t14 t15 t16 t17 t18 t19 t20 t21 e1 e2 e3 e4 e5 e6 e7 e8 e9 e10 e11 e12 e13 e14 e15 e16 e17 e18 e19 e20 e21
 simp only[ik,iO.word,iO.many,gU,V8,wev,iv,Int.cast_ofNat_Int,Int.natCast_zero,Int.natCast_one] at r1 r2 r3 r4 r5 r6 r7 r8 r9 r10 r11 r12 r13 r14 r15 r16 r17 r18 r19 r20 r21
 go_enter Tryz.func111,Tryz.ntmps111
 go_wp2
 go_returns
 exact⟨_,by simp,ai _,HT.o,HB.o⟩
theorem Qy {w:World} {b n:Nat} {l:List Bool} {cs:Array Value} {t:TypeId} (h:w.heap[b]? =some (.cells cs t (0,0))) (hc:cs.toList=dN l) (hn:n=l.length) (hm:l.length<=100):CV w (.slice (some ⟨b,0,none⟩) n n) l:=by
 subst hn
 refine⟨by simp[dN],_,_,rfl,ai _,by simp only[maxLen];omega,(fun h=>by cases h),fun a ha=>?_⟩
 cases ha
 refine⟨rfl,?_⟩
 rw[<-hc]
 exact yw h
theorem eF (code:Int) (l:List Bool) (w:World) (hm:l.length<=100) (cs:Array Value) (hc:cs.toList=dN l) (t:TypeId) (n:Nat) (hn:n=l.length):
 Calls Tryz.prog 112 #[iv code,.slice (some ⟨w.heap.size,0,none⟩) n n] (w.alloc (.cells cs t)) (UK code (l.contains true) w):=by
 refine(RU code l _ _ (Qy (ay _ _) hc hn hm)).mono ?_
 rintro e w' ⟨hb,h⟩
 exact⟨aX (ak (aG _ _) _) hb,h⟩
theorem qU (a b:Int) (w:World):Calls Tryz.prog 249 #[iv a,iv b] w (UK 3 (decide (b<=a)) w):=by
 go_enter Tryz.func249,Tryz.ntmps249
 go_wp2_with fail
 refine(eF 3 [decide (b<=a)] w (by simp) _ (by simp[dN]) _ _ rfl).mono ?_
 rintro e w1 ⟨hb,⟨hc,rfl⟩|⟨hc,rfl⟩⟩
 ·(try go_wp2_with fail)
  go_end0
  exact⟨hb,.inl ⟨by simpa using hc,rfl⟩⟩
 ·exact⟨rfl,hb,.inr ⟨by simpa using hc,rfl⟩⟩
theorem je (a b:Int) (w:World):Calls Tryz.prog 251 #[iv a,iv b] w (UK 7 (decide (b<=a)) w):=by
 go_enter Tryz.func251,Tryz.ntmps251
 go_wp2_with fail
 refine(eF 7 [decide (b<=a)] w (by simp) _ (by simp[dN]) _ _ rfl).mono ?_
 rintro e w1 ⟨hb,⟨hc,rfl⟩|⟨hc,rfl⟩⟩
 ·(try go_wp2_with fail)
  go_end0
  exact⟨hb,.inl ⟨by simpa using hc,rfl⟩⟩
 ·exact⟨rfl,hb,.inr ⟨by simpa using hc,rfl⟩⟩
theorem Gu (a b m:Int) (w:World):Calls Tryz.prog 288 #[iv a,iv b,iv m] w (UK 2 (decide (b<a) ||decide (m<b)) w):=by
 go_enter Tryz.func288,Tryz.ntmps288
 go_wp2_with fail
 refine(eF 2 [decide (b<a),decide (m<b)] w (by simp) _ (by simp[dN]) _ _ rfl).mono ?_
 rintro e w1 ⟨hb,⟨hc,rfl⟩|⟨hc,rfl⟩⟩
 ·(try go_wp2_with fail)
  go_end0
  exact⟨hb,.inl ⟨by simpa using hc,rfl⟩⟩
 ·exact⟨rfl,hb,.inr ⟨by simpa using hc,rfl⟩⟩
theorem Ak (a b m k:Int) (w:World) (hx:0<=a/\a<=100000/\0<=k/\k<=100000):Calls Tryz.prog 255 #[iv a,iv b,iv m,iv k] w (UK 2 (decide (b<a) ||(decide (m<b) ||decide (a+k<b))) w):=by
 go_enter Tryz.func255,Tryz.ntmps255
 go_wp2_with fail
 refine(eF 2 [decide (b<a),decide (m<b),decide (a+k<b)] w (by simp) _ (by simp[dN]) _ _ rfl).mono ?_
 rintro e w1 ⟨hb,⟨hc,rfl⟩|⟨hc,rfl⟩⟩
 ·(try go_wp2_with fail)
  go_end0
  exact⟨hb,.inl ⟨by simpa using hc,rfl⟩⟩
 ·exact⟨rfl,hb,.inr ⟨by simpa using hc,rfl⟩⟩
end Go.Proofs.YthbpmepjmebolaaGreatDoor.Bk
end
section
namespace Go.Proofs.YthbpmepjmebolaaGreatDoor.Bk
open Go.RowKit Go.RG Go.SL Go.Shelf jC Go.TB Go.Proofs.YthbpmepjmebolaaGreatDoor.Be
structure Row where
 t:TypeId
 size:Nat
 v:Value
 n:Nat
 xs:List Value
structure xW (N:Nat) (w:World) (wb:Nat) (R:List Row):Prop where
 own: ∀(i:Nat) (r:Row),R[i]? =some r->w.ownsRow N r.t r.size r.v r.n r.xs
 apart: ∀(i j:Nat) (a b:Row),R[i]? =some a->R[j]? =some b->i≠j->a.v.ownBlock=none∨a.v.ownBlock≠b.v.ownBlock
 off: ∀(i:Nat) (r:Row),R[i]? =some r->r.v.ownBlock≠some wb
 lt:wb<w.heap.size
 base:N<=wb
theorem dQ {w W:World} {N:Nat} {t:TypeId} {size:Nat} {v:Value} {n:Nat} {xs:List Value} (h:w.ownsRow N t size v n xs) {Ms:List Nat} (hE:Ext Ms w W) (hM: ∀b,v.ownBlock=some b->b∉Ms):W.ownsRow N t size v n xs:=by
 obtain⟨h1,h2|⟨g,c,cs,rfl,hb,hc,h3⟩⟩:=h
 ·exact⟨h1,.inl h2⟩
 ·exact⟨h1,.inr ⟨g,c,cs,rfl,hb,(hE.block g (aV.1 hc).1 (hM g rfl)).trans hc,h3⟩⟩
theorem xW.keep {N:Nat} {w W:World} {wb:Nat} {R:List Row} (h:xW N w wb R) {Ms:List Nat} (hE:Ext Ms w W) (hM: ∀m∈Ms,m=wb∨m<N):xW N W wb R where
 own i r hr:=dQ (h.own i r hr) hE (fun b hb hm=>by
  rcases hM b hm with rfl|h1
  ·exact h.off i r hr hb
  ·have:=((h.own i r hr).lt b hb).1;omega)
 apart:=h.apart
 off:=h.off
 lt:=fP h.lt hE.size
 base:=h.base
theorem xW.put {N:Nat} {w W:World} {wb:Nat} {R:List Row} (h:xW N w wb R) {i:Nat} {r:Row} (hr:R[i]? =some r) (r':Row) {Ms:List Nat} (hE:Ext Ms w W) (hM: ∀m∈Ms,m=wb∨m<N∨r.v.ownBlock=some m)
 (ho:W.ownsRow N r'.t r'.size r'.v r'.n r'.xs) (hb:r'.v.ownBlock=r.v.ownBlock∨r'.v.ownBlock=none∨ ∃k,r'.v.ownBlock=some k/\w.heap.size<=k):xW N W wb (R.set i r'):=by
 have hlt:=(jq.1 hr).1
 have key: ∀(j:Nat) (x:Row),(R.set i r')[j]? =some x->(j=i/\x=r')∨(j≠i/\R[j]? =some x):=by
  intro j x hx
  rw[List.getElem?_set] at hx
  by_cases e:i=j
  ·subst e
   rw[aC rfl,aC hlt] at hx
   exact .inl ⟨rfl,(jH hx).symm⟩
  ·rw[aj e] at hx
   exact .inr ⟨fun h=>e h.symm,hx⟩
 have new: ∀(j:Nat) (x:Row),R[j]? =some x->j≠i->x.v.ownBlock=none∨x.v.ownBlock≠r'.v.ownBlock:=by
  intro j x hx hj
  rcases hb with hb|hb|⟨k,hk,hs⟩
  ·rw[hb];exact h.apart j i x r hx hr hj
  ·rw[hb]
   cases x.v.ownBlock with
   |none=>exact .inl rfl
   |some b=>exact .inr (by simp)
  ·rw[hk]
   cases hxb:x.v.ownBlock with
   |none=>exact .inl rfl
   |some b=>
    refine .inr fun e=>?_
    obtain rfl:=jH e
    have:=((h.own j x hx).lt b hxb).2
    omega
 refine⟨fun j x hx=>?_,fun j k a b ha hbb hjk=>?_,fun j x hx=>?_,fP h.lt hE.size,h.base⟩
 ·rcases key j x hx with⟨rfl,rfl⟩|⟨hj,hx'⟩
  ·exact ho
  ·refine dQ (h.own j x hx') hE (fun b hbb hm=>?_)
   rcases hM b hm with rfl|h1|h1
   ·exact h.off j x hx' hbb
   ·have:=((h.own j x hx').lt b hbb).1;omega
   ·rcases h.apart j i x r hx' hr hj with h2|h2
    ·rw[h2] at hbb;cases hbb
    ·exact h2 (hbb.trans h1.symm)
 ·rcases key j a ha with⟨rfl,rfl⟩|⟨hj,ha'⟩
  ·rcases key k b hbb with⟨rfl,rfl⟩|⟨hk,hb'⟩
   ·exact absurd rfl hjk
   ·rcases new k b hb' hk with h1|h1
    ·rcases hq:a.v.ownBlock with _|q
     ·exact .inl rfl
     ·exact .inr (by rw[h1];simp)
    ·exact .inr fun e=>h1 e.symm
  ·rcases key k b hbb with⟨rfl,rfl⟩|⟨hk,hb'⟩
   ·exact new j a ha' hj
   ·exact h.apart j k a b ha' hb' hjk
 ·rcases key j x hx with⟨rfl,rfl⟩|⟨hj,hx'⟩
  ·rcases hb with hb|hb|⟨k,hk,hs⟩
   ·rw[hb];exact h.off _ r hr
   ·rw[hb];simp
   ·rw[hk];intro e;obtain rfl:=jH e;have:=h.lt;omega
  ·exact h.off j x hx'
theorem xW.push {N:Nat} {w W:World} {wb:Nat} {R:List Row} (h:xW N w wb R) (r':Row) {Ms:List Nat} (hE:Ext Ms w W) (hM: ∀m∈Ms,m=wb∨m<N)
 (ho:W.ownsRow N r'.t r'.size r'.v r'.n r'.xs) (hb:r'.v.ownBlock=none∨ ∃k,r'.v.ownBlock=some k/\w.heap.size<=k):xW N W wb (R++[r']):=by
 have hk:=h.keep hE hM
 have key: ∀(j:Nat) (x:Row),(R++[r'])[j]? =some x->(R[j]? =some x)∨(j=R.length/\x=r'):=by
  intro j x hx
  by_cases hj:j<R.length
  ·rw[vP hj] at hx;exact .inl hx
  ·rw[nT (by omega)] at hx
   have h0:=(jq.1 hx).1
   simp only[List.length_cons,List.length_nil] at h0
   have:j-R.length=0:=by omega
   rw[this] at hx
   simp only[List.getElem?_cons_zero,Option.some.injEq] at hx
   exact .inr ⟨by omega,hx.symm⟩
 have new: ∀(j:Nat) (x:Row),R[j]? =some x->(x.v.ownBlock=none∨x.v.ownBlock≠r'.v.ownBlock)/\(r'.v.ownBlock=none∨r'.v.ownBlock≠x.v.ownBlock):=by
  intro j x hx
  rcases hb with hb|⟨k,hk,hs⟩
  ·rw[hb]
   refine⟨?_,.inl rfl⟩
   cases x.v.ownBlock with
   |none=>exact .inl rfl
   |some b=>exact .inr (by simp)
  ·have:x.v.ownBlock≠some k:=fun e=>by have:=((h.own j x hx).lt k e).2;omega
   rw[hk]
   exact⟨.inr this,.inr fun e=>this e.symm⟩
 refine⟨fun j x hx=>?_,fun j k a b ha hbb hjk=>?_,fun j x hx=>?_,hk.lt,h.base⟩
 ·rcases key j x hx with h1|⟨_,rfl⟩
  ·exact hk.own j x h1
  ·exact ho
 ·rcases key j a ha with h1|⟨h1,rfl⟩ <;>rcases key k b hbb with h2|⟨h2,rfl⟩
  ·exact h.apart j k a b h1 h2 hjk
  ·exact(new j a h1).1
  ·exact(new k b h2).2
  ·omega
 ·rcases key j x hx with h1|⟨_,rfl⟩
  ·exact h.off j x h1
  ·rcases hb with hb|⟨k,hk,hs⟩
   ·rw[hb];simp
   ·rw[hk];intro e;obtain rfl:=jH e;have:=h.lt;omega
structure SV where
 uK:Value
 QX:Value
 bQ:Value
 Fj:Value
 Fv:Value
 hps:Value
 cks:Value
 trs:Value
abbrev dD (s:jA) (V:SV):Array Value:=
 #[iv s.led.field.rows,iv s.led.field.aO,iv s.led.field.left.1,iv s.led.field.left.2,V.uK,iv s.led.rate,iv s.led.box.1,iv s.led.box.2,V.QX,
   iv s.heap.last,iv s.heap.size,iv s.heap.bn,iv s.heap.die,iv s.heap.uT,iv s.heap.start.1,iv s.heap.start.2,V.bQ,V.Fj,V.Fv,V.hps,V.cks,V.trs]
def zN (e:KE):Row:=⟨3,1,e.1,e.2.length,ah e.2⟩
def iM (s:jA) (V:SV) (es:List KE):List Row:=
 [⟨118,5,V.uK,s.led.field.au.length,dS s.led.field.au⟩,⟨120,3,V.QX,s.led.notes.length,aY s.led.notes⟩,
   ⟨34,2,V.bQ,s.heap.bQ.length,aH s.heap.bQ⟩,⟨3,1,V.Fj,s.heap.turns.length,ah s.heap.turns⟩,⟨122,3,V.Fv,s.heap.readings.length,aY s.heap.readings⟩,
   ⟨112,2,V.hps,s.bP.heaps.length,aH s.bP.heaps⟩,⟨36,1,V.cks,es.length,fD es⟩,⟨124,4,V.trs,s.bP.aJ.length,gV s.bP.aJ⟩]++es.map zN
structure jX (N:Nat) (w:World) (wb:Nat) (s:jA) (V:SV) (es:List KE):Prop where
 blk:w.heap[wb]? =some (.cells (dD s V) 212 (0,0))
 rows:xW N w wb (iM s V es)
 es:es.map (·.2)=s.bP.aQ
def sD (N:Nat) (w:World) (ns:Value) (l:List Int):Prop:= ∃b c,ns= .slice (some ⟨b,0,none⟩) l.length c/\b<N/\ ∀(j:Nat) (h:j<l.length),w.cell? ⟨b,j,none⟩=some (iv l[j])
def rJ (N:Nat) (wb:Nat) (x:Int×jA) (w:World) (e:Ending) (w':World):Prop:=
 Below N w w'/\((x.1=0/\e= .returned (.tuple #[])/\ ∃V es,jX N w' wb x.2 V es)∨(x.1≠0/\e= .panicked (kG x.1)))
theorem eU {N:Nat} {w:World} {wb:Nat} {s:jA} {V:SV} {es:List KE} (h:jX N w wb s V es):N<=w.heap.size:=by have:=h.rows.lt;have:=h.rows.base;omega
theorem jX.below {N:Nat} {w W:World} {wb:Nat} {s:jA} {V:SV} {es:List KE} (h:jX N w wb s V es) (hb:Below w.heap.size w W):jX N W wb s V es:=
 ⟨(hb.block _ h.rows.lt).trans h.blk,h.rows.keep (Ms:=[]) (Ext.az hb) (by simp),h.es⟩
theorem jX.store {N:Nat} {w W:World} {wb:Nat} {s s':jA} {V:SV} {es:List KE} (h:jX N w wb s V es) (hE:Ext [wb] w W) (hb:W.heap[wb]? =some (.cells (dD s' V) 212 (0,0))) (hr:iM s' V es=iM s V es) (hc:s'.bP.aQ=s.bP.aQ):jX N W wb s' V es:=
 ⟨hb,by rw[hr];exact h.rows.keep hE (fun m hm=> .inl (by simpa using hm)),by rw[hc];exact h.es⟩
theorem gI {W:World} {b off:Nat} {v:Value}:Ext [b] W (W.setCell ⟨b,off,none⟩ v):=
 ⟨rfl,rfl,rfl,by simp[World.setCell],fun k _ hm=>heap_setCell_other W _ k v (by simpa using hm)⟩
theorem dh (a b m:Int):(LW a b m=false)= ¬(a<=b/\b<=m):=by
 unfold LW
 by_cases h1:a<=b <;>by_cases h2:b<=m <;>simp[h1,h2]
theorem dm (a b m k:Int):(MF a b m k=false)= ¬(a<=b/\b<=m/\b<=a+k):=by
 unfold MF
 by_cases h1:a<=b <;>by_cases h2:b<=m <;>by_cases h3:b<=a+k <;>simp[h1,h2,h3]
def afN (c:Prop) (v:Value) (w:World) (e:Ending) (w':World):Prop:=Below w.heap.size w w'/\((c/\e= .returned v)∨(¬c/\e= .panicked (kG 2)))
theorem wU {N wb:Nat} {x:Int×jA} {w w':World} {c:Int} (h3:Below N w w') (hx:x.1=c) (hc:c≠0):rJ N wb x w (.panicked (kG c)) w':=⟨h3,.inr ⟨by rw[hx];exact hc,by rw[hx]⟩⟩
theorem wB (a b:Int) (w:World):Calls Tryz.prog 253 #[iv a,iv b] w (afN (a<=b/\b<=2000) (rv (a,b)) w):=by
 go_enter Tryz.func253,Tryz.ntmps253
 go_wp2_with fail
 refine(Gu _ _ _ _).mono ?_
 rintro e w1 ⟨hb,⟨hc,rfl⟩|⟨hc,rfl⟩⟩
 ·simp only[Bool.or_eq_false_iff,decide_eq_false_iff_not] at hc
  have HB:=ae hb
  obtain⟨c0,f0,l0⟩:=af ((hb.block w.heap.size (by simp)).trans (ay _ _))
  have HC:=ae hc
  have c00:=c0 0
  have c01:=c0 1
  simp at c00 c01
  have d0:(w1.setCell ⟨w.heap.size,0,none⟩ (iv a)).cell? ⟨w.heap.size,0,none⟩=some (iv a):=World.cell?_setCell_same _ _ _ c00
  have d1:((w1.setCell ⟨w.heap.size,0,none⟩ (iv a)).setCell ⟨w.heap.size,1,none⟩ (iv b)).cell? ⟨w.heap.size,1,none⟩=some (iv b):=World.cell?_setCell_same _ _ _ ((World.cell?_setCell_other _ _ _ _ (by simp)).trans c01)
  clear hb hc c0
  go_wp2_with fail
  (try simp only[Exit.inBlock,Exit.then])
  refine bodyPost_ret (v:=rv (a,b)) (by simp[results,Tryz.results253,go_sem,d0,d1]) rfl ?_
  exact⟨((aX (ak (aG _ _) _) HB.o).setCell (ai _) _).setCell (ai _) _,.inl ⟨by have:=HC.o;omega,rfl⟩⟩
 ·simp only[Bool.or_eq_true,eX] at hc
  exact⟨rfl,aX (ak (aG _ _) _) hb,.inr ⟨by omega,rfl⟩⟩
theorem vC (a b:Int) (wb:Nat) (s:jA) (V:SV) (w:World) (hblk:w.heap[wb]? =some (.cells (dD s V) 212 (0,0))):Calls Tryz.prog 250 #[.pointer (some ⟨wb,0,none⟩),iv a,iv b] w (afN (a<=b/\b<=s.led.field.rows) (rv (a,b)) w):=by
 obtain⟨k0,g0,j0⟩:=af hblk
 clear hblk
 go_enter Tryz.func250,Tryz.ntmps250
 go_wp2_with fail
 refine(Gu _ _ _ _).mono ?_
 rintro e w1 ⟨hb,⟨hc,rfl⟩|⟨hc,rfl⟩⟩
 ·simp only[Bool.or_eq_false_iff,decide_eq_false_iff_not] at hc
  have HB:=ae hb
  obtain⟨c0,f0,l0⟩:=af ((hb.block w.heap.size (by simp)).trans (ay _ _))
  have HC:=ae hc
  have c00:=c0 0
  have c01:=c0 1
  simp at c00 c01
  have d0:(w1.setCell ⟨w.heap.size,0,none⟩ (iv a)).cell? ⟨w.heap.size,0,none⟩=some (iv a):=World.cell?_setCell_same _ _ _ c00
  have d1:((w1.setCell ⟨w.heap.size,0,none⟩ (iv a)).setCell ⟨w.heap.size,1,none⟩ (iv b)).cell? ⟨w.heap.size,1,none⟩=some (iv b):=World.cell?_setCell_same _ _ _ ((World.cell?_setCell_other _ _ _ _ (by simp)).trans c01)
  clear hb hc c0 k0 g0 j0
  go_wp2_with fail
  (try simp only[Exit.inBlock,Exit.then])
  refine bodyPost_ret (v:=rv (a,b)) (by simp[results,Tryz.results250,go_sem,d0,d1]) rfl ?_
  exact⟨((aX (ak (aG _ _) _) HB.o).setCell (ai _) _).setCell (ai _) _,.inl ⟨by have:=HC.o;omega,rfl⟩⟩
 ·simp only[Bool.or_eq_true,eX] at hc
  exact⟨rfl,aX (ak (aG _ _) _) hb,.inr ⟨by omega,rfl⟩⟩
theorem wS (a b k:Int) (w:World) (hx:0<=a/\a<=100000/\0<=k/\k<=100000):Calls Tryz.prog 260 #[iv a,iv b,iv k] w (afN (a<=b/\b<=100/\b<=a+k) (rv (a,b)) w):=by
 go_enter Tryz.func260,Tryz.ntmps260
 go_wp2_with fail
 refine(Ak _ _ _ _ _ hx).mono ?_
 rintro e w1 ⟨hb,⟨hc,rfl⟩|⟨hc,rfl⟩⟩
 ·simp only[Bool.or_eq_false_iff,decide_eq_false_iff_not] at hc
  have HB:=ae hb
  obtain⟨c0,f0,l0⟩:=af ((hb.block w.heap.size (by simp)).trans (ay _ _))
  have HC:=ae hc
  have c00:=c0 0
  have c01:=c0 1
  simp at c00 c01
  have d0:(w1.setCell ⟨w.heap.size,0,none⟩ (iv a)).cell? ⟨w.heap.size,0,none⟩=some (iv a):=World.cell?_setCell_same _ _ _ c00
  have d1:((w1.setCell ⟨w.heap.size,0,none⟩ (iv a)).setCell ⟨w.heap.size,1,none⟩ (iv b)).cell? ⟨w.heap.size,1,none⟩=some (iv b):=World.cell?_setCell_same _ _ _ ((World.cell?_setCell_other _ _ _ _ (by simp)).trans c01)
  clear hb hc c0
  go_wp2_with fail
  (try simp only[Exit.inBlock,Exit.then])
  refine bodyPost_ret (v:=rv (a,b)) (by simp[results,Tryz.results260,go_sem,d0,d1]) rfl ?_
  exact⟨((aX (ak (aG _ _) _) HB.o).setCell (ai _) _).setCell (ai _) _,.inl ⟨by have:=HC.o;omega,rfl⟩⟩
 ·simp only[Bool.or_eq_true,eX] at hc
  exact⟨rfl,aX (ak (aG _ _) _) hb,.inr ⟨by omega,rfl⟩⟩
theorem yH (a:Int) (wb:Nat) (s:jA) (V:SV) (w:World) (hblk:w.heap[wb]? =some (.cells (dD s V) 212 (0,0))) (hl:s.heap.last=4):Calls Tryz.prog 256 #[.pointer (some ⟨wb,0,none⟩),iv a] w (UK 7 (decide (4<a)) w):=by
 obtain⟨k0,g0,j0⟩:=af hblk
 clear hblk
 go_enter Tryz.func256,Tryz.ntmps256
 go_wp2_with fail
 refine(je _ _ _).mono ?_
 rintro e w1 ⟨hb,⟨hc,rfl⟩|⟨hc,rfl⟩⟩
 ·(try go_wp2_with fail)
  go_end0
  exact⟨hb,.inl ⟨by simp at hc⊢;omega,rfl⟩⟩
 ·exact⟨rfl,hb,.inr ⟨by simp at hc⊢;omega,rfl⟩⟩
theorem acn (N:Nat) (w:World) (wb:Nat) (s:jA) (V:SV) (es:List KE) (ns:Value) (hO:jX N w wb s V es) (hG:fZ s):Calls Tryz.prog 176 #[.pointer (some ⟨wb,0,none⟩),ns] w (rJ N wb (iU s .row []) w):=by
 have HO:=ae hO
 have hr:=hG.rows
 obtain⟨c0,f0,l0⟩:=af hO.blk
 clear hO hG
 go_enter Tryz.func176,Tryz.ntmps176
 go_wp2_with fail
 refine(qU _ _ _).mono ?_
 rintro e w1 ⟨hb,⟨hc,rfl⟩|⟨hc,rfl⟩⟩
 ·obtain⟨c1,f1,l1⟩:=af ((hb.block _ l0).trans HO.o.blk)
  have HB:=ae hb
  clear hb c0 f0
  have hlt: ¬5<=s.led.field.rows:=by simpa using hc
  have hlt':s.led.field.rows<5:=by omega
  clear hc
  go_wp2_with fail
  go_end0
  have AO:=HO.o.below HB.o
  simp only[iU]
  rw[aj (by omega)]
  refine⟨(HB.o.mono (eU HO.o)).setCell HO.o.rows.base _,.inl ⟨rfl,rfl,V,es,?_⟩⟩
  exact AO.store gI (aI AO.blk _) rfl rfl
 ·have hge:5<=s.led.field.rows:=by simpa using hc
  simp only[iU]
  rw[aC hge]
  exact⟨rfl,hb.mono (eU HO.o),.inr ⟨by simp,rfl⟩⟩
theorem ZA (N:Nat) (w:World) (wb:Nat) (s:jA) (V:SV) (es:List KE) (ns:Value) (x:Int) (hO:jX N w wb s V es) (hn:sD N w ns [x]):Calls Tryz.prog 181 #[.pointer (some ⟨wb,0,none⟩),ns] w (rJ N wb (iU s .rate [x]) w):=by
 obtain⟨vt,vn,vw,vu,vr,vh,vk,vs⟩:=V
 have HO:=ae hO
 have gQ:=eU hO
 obtain⟨b,c,rfl,hbN,hcs⟩:=hn
 have lb:b<w.heap.size:=by omega
 have lw:=hO.rows.lt
 have wQ:=hO.rows.base
 have HW:Hid (∀W,Below N w W->b<W.heap.size/\ ∀(j:Nat) (h:j<[x].length),W.cell? ⟨b,j,none⟩=some (iv [x][j])):=ae (fun W hB=>⟨by have:=hB.size;omega,fun j h=>(jd (hB.block b hbN)).trans (hcs j h)⟩)
 obtain⟨c0,f0,l0⟩:=af hO.blk
 have pI:=hcs 0 (by simp)
 simp only[ax] at pI
 have HB0:Hid (Below w.heap.size w w):=ae (aG _ _)
 clear hO hcs
 go_enter Tryz.func181,Tryz.ntmps181
 go_wp2_with fail
 refine zg 8 [] none [] ?_
 simp only[zt]
 repeat ((first|refine zd ?_|refine zk ?_);simp only[zp])
 intro W1 hE hF
 have HB1:=ae (aX HB0.o hE.below)
 clear hE hF c0 f0 pI
 obtain⟨c1,f1,l1⟩:=af ((HB1.o.block _ lw).trans HO.o.blk)
 obtain⟨xg,hcs1⟩:=HW.o W1 (HB1.o.mono gQ)
 have n10:=hcs1 0 (by simp)
 simp only[ax] at n10
 clear hcs1
 go_wp2_with fail
 refine(eF 2 [x==0,decide (50<x)] W1 (by simp) _ (by simp[dN]) _ _ rfl).mono ?_
 rintro e W2 ⟨hb,⟨hc,rfl⟩|⟨hc,rfl⟩⟩
 rotate_left
 ·simp at hc
  simp only[iU,dh,dm,dB]
  (repeat (first|rw[aC (by omega)]|rw[aj (by omega)]))
  exact⟨rfl,(aX HB1.o hb).mono gQ,.inr ⟨by simp,rfl⟩⟩
 simp at hc
 have HB2:=ae (aX HB1.o hb)
 have jT:=ae hc
 clear hb hc c1 f1 xg n10
 obtain⟨c2,f2,l2⟩:=af ((HB2.o.block _ lw).trans HO.o.blk)
 obtain⟨xX,hcs2⟩:=HW.o W2 (HB2.o.mono gQ)
 have n20:=hcs2 0 (by simp)
 simp only[ax] at n20
 clear hcs2
 go_wp2_with fail
 go_end0
 have q0:=jT.o
 simp only[iU,dh,dm,dB]
 (repeat (first|rw[aC (by omega)]|rw[aj (by omega)]))
 have AO:=HO.o.below HB2.o
 exact⟨((HB2.o.mono gQ).setCell wQ _),.inl ⟨rfl,rfl,_,es,AO.store (gI) (aI (AO.blk) _) rfl rfl⟩⟩
theorem adm (N:Nat) (w:World) (wb:Nat) (s:jA) (V:SV) (es:List KE) (ns:Value) (x y:Int) (hO:jX N w wb s V es) (hn:sD N w ns [x,y]):Calls Tryz.prog 182 #[.pointer (some ⟨wb,0,none⟩),ns] w (rJ N wb (iU s .box [x,y]) w):=by
 obtain⟨vt,vn,vw,vu,vr,vh,vk,vs⟩:=V
 have HO:=ae hO
 have gQ:=eU hO
 obtain⟨b,c,rfl,hbN,hcs⟩:=hn
 have lb:b<w.heap.size:=by omega
 have lw:=hO.rows.lt
 have wQ:=hO.rows.base
 have HW:Hid (∀W,Below N w W->b<W.heap.size/\ ∀(j:Nat) (h:j<[x,y].length),W.cell? ⟨b,j,none⟩=some (iv [x,y][j])):=ae (fun W hB=>⟨by have:=hB.size;omega,fun j h=>(jd (hB.block b hbN)).trans (hcs j h)⟩)
 obtain⟨c0,f0,l0⟩:=af hO.blk
 have pI:=hcs 0 (by simp)
 simp only[ax] at pI
 have n01:=hcs 1 (by simp)
 simp only[ax] at n01
 have HB0:Hid (Below w.heap.size w w):=ae (aG _ _)
 clear hO hcs
 go_enter Tryz.func182,Tryz.ntmps182
 go_wp2_with fail
 refine RX.gG (fun ps W'=> ¬(x<=y/\y<=2000)/\ps=kG 2/\Below N w W') 8 [] none [(7,⟨fun _ v=>v=rv (x,y),fun _ _ _=>(x<=y/\y<=2000)⟩)] (by rintro ps a1 Wx hdf ⟨h1,rfl,h3⟩;refine⟨hdf,wU (c:=2) h3 ?_ (by decide)⟩;simp only[iU,dh,dm,dB];(repeat (first|rw[aC (by omega)]|rw[aj (by omega)]))) (by as_aux_lemma=>kernel_rfl) (by as_aux_lemma=>kernel_rfl) ?_
 simp only[zt]
 repeat (refine RX.zd ?_;simp only[zp])
 refine RX.bJ _ (by rfl) (by rfl) ⟨_,rfl⟩ (fun Wq hE2 hF2=>?_) (fun v Wa Wb ho hE=>ho) (fun v hv=>?_)
 ·have hE':Ext [] w Wq:=hE2
  refine RX.dG 253 #[iv x,iv y] (by go_simp;try rfl) ?_
  refine(wB x y Wq).mono ?_
  rintro e w' ⟨hb,⟨hc,rfl⟩|⟨hc,rfl⟩⟩
  ·exact .inl ⟨_,rfl,rfl,hc,Ext.az hb⟩
  ·exact .inr ⟨_,rfl,hc,rfl,(aX HB0.o (aX hE'.below hb)).mono gQ⟩
 obtain rfl:v=rv (x,y):=hv
 simp only[zp]
 intro W1 hE hF
 have hc:x<=y/\y<=2000:=hF _ (bg _)
 have HB1:=ae (aX HB0.o (show Ext [] w W1 from hE).below)
 have jT:=ae hc
 clear hE hF hc c0 f0 pI n01
 obtain⟨c1,f1,l1⟩:=af ((HB1.o.block _ lw).trans HO.o.blk)
 obtain⟨xg,hcs1⟩:=HW.o W1 (HB1.o.mono gQ)
 have n10:=hcs1 0 (by simp)
 simp only[ax] at n10
 have n11:=hcs1 1 (by simp)
 simp only[ax] at n11
 clear hcs1
 go_wp2_with fail
 go_end0
 have q0:=jT.o
 simp only[iU,dh,dm,dB]
 (repeat (first|rw[aC (by omega)]|rw[aj (by omega)]))
 have AO:=HO.o.below HB1.o
 exact⟨(((HB1.o.mono gQ).setCell wQ _).setCell wQ _),.inl ⟨rfl,rfl,_,es,AO.store ((gI).trans gI) (aI (aI (AO.blk) _) _) rfl rfl⟩⟩
theorem Z8 (N:Nat) (w:World) (wb:Nat) (s:jA) (V:SV) (es:List KE) (ns:Value) (x y:Int) (hO:jX N w wb s V es) (hn:sD N w ns [x,y]):Calls Tryz.prog 177 #[.pointer (some ⟨wb,0,none⟩),ns] w (rJ N wb (iU s .left [x,y]) w):=by
 obtain⟨vt,vn,vw,vu,vr,vh,vk,vs⟩:=V
 have HO:=ae hO
 have gQ:=eU hO
 obtain⟨b,c,rfl,hbN,hcs⟩:=hn
 have lb:b<w.heap.size:=by omega
 have lw:=hO.rows.lt
 have wQ:=hO.rows.base
 have HW:Hid (∀W,Below N w W->b<W.heap.size/\ ∀(j:Nat) (h:j<[x,y].length),W.cell? ⟨b,j,none⟩=some (iv [x,y][j])):=ae (fun W hB=>⟨by have:=hB.size;omega,fun j h=>(jd (hB.block b hbN)).trans (hcs j h)⟩)
 obtain⟨c0,f0,l0⟩:=af hO.blk
 have pI:=hcs 0 (by simp)
 simp only[ax] at pI
 have n01:=hcs 1 (by simp)
 simp only[ax] at n01
 have HB0:Hid (Below w.heap.size w w):=ae (aG _ _)
 clear hO hcs
 go_enter Tryz.func177,Tryz.ntmps177
 go_wp2_with fail
 refine RX.gG (fun ps W'=> ¬(x<=y/\y<=s.led.field.rows)/\ps=kG 2/\Below N w W') 9 [] none [(8,⟨fun _ v=>v=rv (x,y),fun _ _ _=>(x<=y/\y<=s.led.field.rows)⟩)] (by rintro ps a1 Wx hdf ⟨h1,rfl,h3⟩;refine⟨hdf,wU (c:=2) h3 ?_ (by decide)⟩;simp only[iU,dh,dm,dB];(repeat (first|rw[aC (by omega)]|rw[aj (by omega)]))) (by as_aux_lemma=>kernel_rfl) (by as_aux_lemma=>kernel_rfl) ?_
 simp only[zt]
 repeat (refine RX.zd ?_;simp only[zp])
 refine RX.bJ _ (by rfl) (by rfl) ⟨_,rfl⟩ (fun Wq hE2 hF2=>?_) (fun v Wa Wb ho hE=>ho) (fun v hv=>?_)
 ·have hE':Ext [] w Wq:=hE2
  refine RX.dG 250 #[.pointer (some ⟨wb,0,none⟩),iv x,iv y] (by go_simp;try rfl) ?_
  refine(vC x y wb s _ Wq ((hE'.block _ lw (by simp)).trans HO.o.blk)).mono ?_
  rintro e w' ⟨hb,⟨hc,rfl⟩|⟨hc,rfl⟩⟩
  ·exact .inl ⟨_,rfl,rfl,hc,Ext.az hb⟩
  ·exact .inr ⟨_,rfl,hc,rfl,(aX HB0.o (aX hE'.below hb)).mono gQ⟩
 obtain rfl:v=rv (x,y):=hv
 simp only[zp]
 intro W1 hE hF
 have hc:x<=y/\y<=s.led.field.rows:=hF _ (bg _)
 have HB1:=ae (aX HB0.o (show Ext [] w W1 from hE).below)
 have jT:=ae hc
 clear hE hF hc c0 f0 pI n01
 obtain⟨c1,f1,l1⟩:=af ((HB1.o.block _ lw).trans HO.o.blk)
 obtain⟨xg,hcs1⟩:=HW.o W1 (HB1.o.mono gQ)
 have n10:=hcs1 0 (by simp)
 simp only[ax] at n10
 have n11:=hcs1 1 (by simp)
 simp only[ax] at n11
 clear hcs1
 go_wp2_with fail
 go_end0
 have q0:=jT.o
 simp only[iU,dh,dm,dB]
 (repeat (first|rw[aC (by omega)]|rw[aj (by omega)]))
 have AO:=HO.o.below HB1.o
 exact⟨(((HB1.o.mono gQ).setCell wQ _).setCell wQ _),.inl ⟨rfl,rfl,_,es,AO.store ((gI).trans gI) (aI (aI (AO.blk) _) _) rfl rfl⟩⟩
theorem We (N:Nat) (w:World) (wb:Nat) (s:jA) (V:SV) (es:List KE) (ns:Value) (x y:Int) (hO:jX N w wb s V es) (hn:sD N w ns [x,y]) (hx:0<=x/\x<=9999):Calls Tryz.prog 185 #[.pointer (some ⟨wb,0,none⟩),ns] w (rJ N wb (iU s .start [x,y]) w):=by
 obtain⟨vt,vn,vw,vu,vr,vh,vk,vs⟩:=V
 have HO:=ae hO
 have gQ:=eU hO
 obtain⟨b,c,rfl,hbN,hcs⟩:=hn
 have lb:b<w.heap.size:=by omega
 have lw:=hO.rows.lt
 have wQ:=hO.rows.base
 have HW:Hid (∀W,Below N w W->b<W.heap.size/\ ∀(j:Nat) (h:j<[x,y].length),W.cell? ⟨b,j,none⟩=some (iv [x,y][j])):=ae (fun W hB=>⟨by have:=hB.size;omega,fun j h=>(jd (hB.block b hbN)).trans (hcs j h)⟩)
 obtain⟨c0,f0,l0⟩:=af hO.blk
 have pI:=hcs 0 (by simp)
 simp only[ax] at pI
 have n01:=hcs 1 (by simp)
 simp only[ax] at n01
 have HB0:Hid (Below w.heap.size w w):=ae (aG _ _)
 clear hO hcs
 go_enter Tryz.func185,Tryz.ntmps185
 go_wp2_with fail
 refine zg 6 [] none [] ?_
 simp only[zt]
 repeat ((first|refine zd ?_|refine zk ?_);simp only[zp])
 intro W1 hE hF
 have HB1:=ae (aX HB0.o hE.below)
 clear hE hF c0 f0 pI n01
 obtain⟨c1,f1,l1⟩:=af ((HB1.o.block _ lw).trans HO.o.blk)
 obtain⟨xg,hcs1⟩:=HW.o W1 (HB1.o.mono gQ)
 have n10:=hcs1 0 (by simp)
 simp only[ax] at n10
 have n11:=hcs1 1 (by simp)
 simp only[ax] at n11
 clear hcs1
 go_wp2_with fail
 refine(Ak _ _ _ _ _ (by omega)).mono ?_
 rintro e W2 ⟨hb,⟨hc,rfl⟩|⟨hc,rfl⟩⟩
 rotate_left
 ·simp at hc
  simp only[iU,dh,dm,dB]
  (repeat (first|rw[aC (by omega)]|rw[aj (by omega)]))
  exact⟨rfl,(aX HB1.o hb).mono gQ,.inr ⟨by simp,rfl⟩⟩
 simp at hc
 have HB2:=ae (aX HB1.o hb)
 have jT:=ae hc
 clear hb hc c1 f1 xg n10 n11
 obtain⟨c2,f2,l2⟩:=af ((HB2.o.block _ lw).trans HO.o.blk)
 obtain⟨xX,hcs2⟩:=HW.o W2 (HB2.o.mono gQ)
 have n20:=hcs2 0 (by simp)
 simp only[ax] at n20
 have n21:=hcs2 1 (by simp)
 simp only[ax] at n21
 clear hcs2
 go_wp2_with fail
 refine zg 8 [] none [] ?_
 simp only[zt]
 repeat ((first|refine zd ?_|refine zk ?_);simp only[zp])
 intro W3 hE hF
 have HB3:=ae (aX HB2.o hE.below)
 clear hE hF c2 f2 xX n20 n21
 obtain⟨c3,f3,l3⟩:=af ((HB3.o.block _ lw).trans HO.o.blk)
 obtain⟨Kz,hcs3⟩:=HW.o W3 (HB3.o.mono gQ)
 have n30:=hcs3 0 (by simp)
 simp only[ax] at n30
 have n31:=hcs3 1 (by simp)
 simp only[ax] at n31
 clear hcs3
 go_wp2_with fail
 go_end0
 have q0:=jT.o
 simp only[iU,dh,dm,dB]
 (repeat (first|rw[aC (by omega)]|rw[aj (by omega)]))
 have AO:=HO.o.below HB3.o
 exact⟨(((HB3.o.mono gQ).setCell wQ _).setCell wQ _),.inl ⟨rfl,rfl,_,es,AO.store ((gI).trans gI) (aI (aI (AO.blk) _) _) rfl rfl⟩⟩
theorem jX.put {N:Nat} {w W:World} {wb:Nat} {s s':jA} {V V':SV} {es es':List KE} (h:jX N w wb s V es) {i:Nat} {r:Row} (hr:(iM s V es)[i]? =some r) (r':Row) {Ms:List Nat} (hE:Ext Ms w W) (hM: ∀m∈Ms,r.v.ownBlock=some m)
 (ho:W.ownsRow N r'.t r'.size r'.v r'.n r'.xs) (hb:r'.v.ownBlock=r.v.ownBlock∨ ∃k,r'.v.ownBlock=some k/\w.heap.size<=k) {off:Nat} {u:Value} (hblk:(W.setCell ⟨wb,off,none⟩ u).heap[wb]? =some (.cells (dD s' V') 212 (0,0)))
 (hrows:iM s' V' es'=(iM s V es).set i r') (hes:es'.map (·.2)=s'.bP.aQ):jX N (W.setCell ⟨wb,off,none⟩ u) wb s' V' es':=by
 refine⟨hblk,?_,hes⟩
 rw[hrows]
 have h1:=h.rows.put hr r' hE (fun m hm=> .inr (.inr (hM m hm))) ho (hb.imp id .inr)
 exact h1.keep gI (fun m hm=> .inl (by simpa using hm))
theorem aU {w:World} {base:Nat} {e:TypeId} {size:Nat} {v:Value} {n:Nat} {xs:List Value} (h:w.ownsRow base e size v n xs): ∃o c,v= .slice o n c:=by
 obtain⟨h1,⟨rfl,rfl⟩|⟨g,c,cs,rfl,h3⟩⟩:=h
 ·exact⟨none,0,rfl⟩
 ·exact⟨_,_,rfl⟩
theorem GH (x y z:Int): ∀u∈[iv x,iv y,iv z],u.oneCell'=true:=by simp[Value.oneCell']
theorem OI (x y z p q:Int): ∀u∈[iv x,iv y,iv z,iv p,iv q],u.oneCell'=true:=by simp[Value.oneCell']
theorem acs (x y z:Int): ∀u∈[Value.bool true,iv x,iv y,iv z],u.oneCell'=true:=by simp[Value.oneCell']
theorem ZL (x y:Int): ∀u∈[iv x,iv y],u.oneCell'=true:=by simp[Value.oneCell']
theorem one_one (x:Int): ∀u∈[iv x],u.oneCell'=true:=by simp[Value.oneCell']
theorem Zm:iR Tryz.prog 27 118 (.agg #[iv 0,iv 0,iv 0,iv 0,iv 0]) 5 40:=⟨Tryz.underlying27,by kernel_rfl,rfl,by omega⟩
theorem ach:iR Tryz.prog 31 120 (.agg #[iv 0,iv 0,iv 0]) 3 24:=⟨Tryz.underlying31,by kernel_rfl,rfl,by omega⟩
theorem agG:iR Tryz.prog 40 112 (rv (0,0)) 2 16:=⟨Tryz.underlying40,by kernel_rfl,rfl,by omega⟩
theorem agI:iR Tryz.prog 41 36 (.slice none 0 0) 1 24:=⟨Tryz.underlying41,by kernel_rfl,rfl,by omega⟩
theorem acf:iR Tryz.prog 42 124 (.agg #[.bool false,iv 0,iv 0,iv 0]) 4 32:=⟨Tryz.underlying42,by kernel_rfl,rfl,by omega⟩
theorem acg:iR Tryz.prog 37 122 (.agg #[iv 0,iv 0,iv 0]) 3 24:=⟨Tryz.underlying37,by kernel_rfl,rfl,by omega⟩
theorem aae (N:Nat) (w:World) (wb:Nat) (s:jA) (V:SV) (es:List KE) (ns:Value) (x y z:Int) (hO:jX N w wb s V es) (hn:sD N w ns [x,y,z]) (hG:fZ s):Calls Tryz.prog 189 #[.pointer (some ⟨wb,0,none⟩),ns] w (rJ N wb (iU s .BM [x,y,z]) w):=by
 obtain⟨vt,vn,vw,vu,vr,vh,vk,vs⟩:=V
 obtain⟨o,cc,rfl⟩: ∃o c,vr= .slice o s.heap.readings.length c:=aU (n:=s.heap.readings.length) (hO.rows.own 4 _ rfl)
 have HO:=ae hO
 have gQ:=eU hO
 obtain⟨b,c,rfl,hbN,hcs⟩:=hn
 have lb:b<w.heap.size:=by omega
 have lw:=hO.rows.lt
 have wQ:=hO.rows.base
 have HW:Hid (∀W,Below N w W->b<W.heap.size/\ ∀(j:Nat) (h:j<[x,y,z].length),W.cell? ⟨b,j,none⟩=some (iv [x,y,z][j])):=ae (fun W hB=>⟨by have:=hB.size;omega,fun j h=>(jd (hB.block b hbN)).trans (hcs j h)⟩)
 obtain⟨c0,f0,l0⟩:=af hO.blk
 have pI:=hcs 0 (by simp)
 simp only[ax] at pI
 have n01:=hcs 1 (by simp)
 simp only[ax] at n01
 have n02:=hcs 2 (by simp)
 simp only[ax] at n02
 have HB0:Hid (Below w.heap.size w w):=ae (aG _ _)
 have hl4:=hG.heap.1
 have MO:=hG.reads
 clear hO hcs hG
 go_enter Tryz.func189,Tryz.ntmps189
 go_wp2_with fail
 refine(yH x wb s _ w ((HB0.o.block _ lw).trans HO.o.blk) hl4).mono ?_
 rintro e W1 ⟨hb,⟨hc,rfl⟩|⟨hc,rfl⟩⟩
 rotate_left
 ·simp at hc
  simp only[iU,dh,dm,dB]
  (repeat (first|rw[aC (by omega)]|rw[aj (by omega)]))
  exact⟨rfl,(aX HB0.o hb).mono gQ,.inr ⟨by simp,rfl⟩⟩
 simp at hc
 have HB1:=ae (aX HB0.o hb)
 have jT:=ae hc
 clear hb hc c0 f0 pI n01 n02
 obtain⟨c1,f1,l1⟩:=af ((HB1.o.block _ lw).trans HO.o.blk)
 obtain⟨xg,hcs1⟩:=HW.o W1 (HB1.o.mono gQ)
 have n10:=hcs1 0 (by simp)
 simp only[ax] at n10
 have n11:=hcs1 1 (by simp)
 simp only[ax] at n11
 have n12:=hcs1 2 (by simp)
 simp only[ax] at n12
 clear hcs1
 go_wp2_with fail
 refine zg 8 [] none [] ?_
 simp only[zt]
 repeat ((first|refine zd ?_|refine zk ?_);simp only[zp])
 intro W2 hE hF
 have HB2:=ae (aX HB1.o hE.below)
 clear hE hF c1 f1 xg n10 n11 n12
 obtain⟨c2,f2,l2⟩:=af ((HB2.o.block _ lw).trans HO.o.blk)
 obtain⟨xX,hcs2⟩:=HW.o W2 (HB2.o.mono gQ)
 have n20:=hcs2 0 (by simp)
 simp only[ax] at n20
 have n21:=hcs2 1 (by simp)
 simp only[ax] at n21
 have n22:=hcs2 2 (by simp)
 simp only[ax] at n22
 clear hcs2
 go_wp2_with fail
 refine(eF 2 [decide (1000<y),decide (50<z)] W2 (by simp) _ (by simp[dN]) _ _ rfl).mono ?_
 rintro e W3 ⟨hb,⟨hc,rfl⟩|⟨hc,rfl⟩⟩
 rotate_left
 ·simp at hc
  have q0:=jT.o
  simp only[iU,dh,dm,dB]
  (repeat (first|rw[aC (by omega)]|rw[aj (by omega)]))
  exact⟨rfl,(aX HB2.o hb).mono gQ,.inr ⟨by simp,rfl⟩⟩
 simp at hc
 have HB3:=ae (aX HB2.o hb)
 have rM:=ae hc
 clear hb hc c2 f2 xX n20 n21 n22
 obtain⟨c3,f3,l3⟩:=af ((HB3.o.block _ lw).trans HO.o.blk)
 obtain⟨Kz,hcs3⟩:=HW.o W3 (HB3.o.mono gQ)
 have n30:=hcs3 0 (by simp)
 simp only[ax] at n30
 have n31:=hcs3 1 (by simp)
 simp only[ax] at n31
 have n32:=hcs3 2 (by simp)
 simp only[ax] at n32
 clear hcs3
 go_wp2_with fail
 refine(qU _ _ _).mono ?_
 rintro e W4 ⟨hb,⟨hc,rfl⟩|⟨hc,rfl⟩⟩
 rotate_left
 ·simp at hc
  have q0:=jT.o
  have q1:=rM.o
  simp only[iU,dh,dm,dB]
  (repeat (first|rw[aC (by omega)]|rw[aj (by omega)]))
  exact⟨rfl,(aX HB3.o hb).mono gQ,.inr ⟨by simp,rfl⟩⟩
 simp at hc
 have HB4:=ae (aX HB3.o hb)
 have xM:=ae hc
 clear hb hc c3 f3 Kz n30 n31 n32
 obtain⟨c4,f4,l4⟩:=af ((HB4.o.block _ lw).trans HO.o.blk)
 obtain⟨QY,kD⟩:=HW.o W4 (HB4.o.mono gQ)
 have n40:=kD 0 (by simp)
 simp only[ax] at n40
 have n41:=kD 1 (by simp)
 simp only[ax] at n41
 have n42:=kD 2 (by simp)
 simp only[ax] at n42
 clear kD
 go_wp2_with fail
 obtain⟨Ms,hMs⟩: ∃Ms,Ms=(Value.slice o s.heap.readings.length cc).ownBlock.toList:=⟨_,rfl⟩
 have hO4:=HO.o.below HB4.o
 have hm1:wb∉Ms:=fun h=>hO4.rows.off 4 _ rfl (by rw[hMs] at h;exact dM.1 h)
 have hm2:b∉Ms:=fun h=>by have:=((hO4.rows.own 4 _ rfl).lt b (by rw[hMs] at h;exact dM.1 h)).1;omega
 have xJ: ∀m∈Ms,m<W4.heap.size:=fun m h=>((hO4.rows.own 4 _ rfl).lt m (by rw[hMs] at h;exact dM.1 h)).2
 have HM:=ae hMs
 have jB:=ae hO4
 clear hMs hO4
 refine zg 19 Ms (some 18) [(17,Spec.slice W4.heap.size #[iv x,iv y,iv z] 122 1),(18,⟨fun _ v=> ∃o2 c2,v= .slice o2 (s.heap.readings.length+1) c2,fun _ v Wx=>Wx.ownsRow N 122 3 v (s.heap.readings.length+1) (aY s.heap.readings++[iv x,iv y,iv z])/\(v.ownBlock=(Value.slice o s.heap.readings.length cc).ownBlock∨ ∃q,v.ownBlock=some q/\W4.heap.size<=q)⟩)] ?_
 simp only[zt]
 repeat ((first|refine zd ?_|refine zk ?_);simp only[zp])
 refine cu W4.heap.size _ _ 1 (by rfl) (ai _) (by rfl) xJ (by simp) (fun W hW=>by go_simp;try rfl) (fun b6=>?_)
 simp only[zp]
 repeat ((first|refine zd ?_|refine zk ?_);simp only[zp])
 refine bJ _ (by rfl) (by rfl) (by exact⟨.slice none (s.heap.readings.length+1) 0,none,0,rfl⟩) (fun W6 hE hF=>?_) (fun v Wa Wb ho hE=>?_) (fun v hv=>?_)
 ·have hE':Ext [] W4 W6:=hE
  obtain⟨b',hb',hge,hcc⟩:=hF _ (bg _) (by kernel_rfl)
  cases hb'
  have hown6:W6.ownsRow N 122 3 (.slice o s.heap.readings.length cc) s.heap.readings.length (aY s.heap.readings):=aA (Ms:=[]) (jB.o.rows.own 4 _ rfl) hE' (by simp)
  have hsrc:aK 3 W6 (.slice (some ⟨b6,0,none⟩) 1 1) 1 ([iv x,iv y,iv z]):=aK.dw 3 1 hcc rfl (by decide)
  refine Does.mono (dU acg (by rfl) (by rfl) hown6 (by rfl) hsrc (GH x y z) (by omega) (by omega) (by have:=hE'.size;have:=HB4.o.size;omega)) ?_
  rintro v' W7 ⟨ho,hgr,hcase⟩
  refine⟨aU ho,⟨ho,?_⟩,⟨hgr.os,hgr.tape,hgr.output,hgr.size,fun b hb hn=>hgr.block b hb (fun e=>hn (by rw[HM.o];exact dM.2 e.symm))⟩⟩
  rcases hcase with h1|h1
  ·exact .inl h1
  ·exact .inr ⟨_,h1,hE'.size⟩
 ·exact⟨aA (Ms:=[]) ho.1 hE (by simp),ho.2⟩
 obtain⟨o7,c7,rfl⟩:=hv
 simp only[zp]
 intro W5 hE hF
 obtain⟨qM,AA⟩:=hF _ (bg _)
 have ig:Ext Ms W4 W5:=hE
 have hbl:=(ig.block wb jB.o.rows.lt hm1).trans jB.o.blk
 obtain⟨c5,f5,l5⟩:=af hbl
 have iZ:=ae (ag ig (ag qM (ag AA hbl)))
 have EW:Below N w W5:=(HB4.o.mono gQ).trans ⟨ig.os,ig.tape,ig.output,ig.size,fun k hk=>ig.block k (by have:=HB4.o.size;omega) (fun h=>by have:=((jB.o.rows.own 4 _ rfl).lt k (by rw[HM.o] at h;exact dM.1 h)).1;omega)⟩
 have pO:=ae EW
 clear hE hF ig qM AA hbl EW hm1 hm2 xJ c4 f4 QY n40 n41 n42
 go_wp2_with fail
 go_end0
 have q0:=jT.o
 have q1:=rM.o
 have q2:=xM.o
 simp only[iU,dh,dm,dB]
 (repeat (first|rw[aC (by omega)]|rw[aj (by omega)]))
 refine⟨pO.o.setCell wQ _,.inl ⟨rfl,rfl,⟨vt,vn,vw,vu,.slice o7 (s.heap.readings.length+1) c7,vh,vk,vs⟩,es,jB.o.put (i:=4) rfl ⟨122,3,.slice o7 (s.heap.readings.length+1) c7,s.heap.readings.length+1,aY s.heap.readings++[iv x,iv y,iv z]⟩ iZ.o.1 (fun m hm=>by rw[HM.o] at hm;exact dM.1 hm) iZ.o.2.1 iZ.o.2.2.1 (aI iZ.o.2.2.2 _) (by simp[iM,iT,aY]) (jB.o.es)⟩⟩
theorem note_any (N:Nat) (w:World) (wb:Nat) (s:jA) (V:SV) (es:List KE) (ns:Value) (x y z:Int) (hO:jX N w wb s V es) (hn:sD N w ns [x,y,z]) (hG:fZ s):Calls Tryz.prog 183 #[.pointer (some ⟨wb,0,none⟩),ns] w (rJ N wb (iU s .note [x,y,z]) w):=by
 obtain⟨vt,vn,vw,vu,vr,vh,vk,vs⟩:=V
 obtain⟨o,cc,rfl⟩: ∃o c,vn= .slice o s.led.notes.length c:=aU (n:=s.led.notes.length) (hO.rows.own 1 _ rfl)
 have HO:=ae hO
 have gQ:=eU hO
 obtain⟨b,c,rfl,hbN,hcs⟩:=hn
 have lb:b<w.heap.size:=by omega
 have lw:=hO.rows.lt
 have wQ:=hO.rows.base
 have HW:Hid (∀W,Below N w W->b<W.heap.size/\ ∀(j:Nat) (h:j<[x,y,z].length),W.cell? ⟨b,j,none⟩=some (iv [x,y,z][j])):=ae (fun W hB=>⟨by have:=hB.size;omega,fun j h=>(jd (hB.block b hbN)).trans (hcs j h)⟩)
 obtain⟨c0,f0,l0⟩:=af hO.blk
 have pI:=hcs 0 (by simp)
 simp only[ax] at pI
 have n01:=hcs 1 (by simp)
 simp only[ax] at n01
 have n02:=hcs 2 (by simp)
 simp only[ax] at n02
 have HB0:Hid (Below w.heap.size w w):=ae (aG _ _)
 have MO:=hG.notes
 have hwe:=hG.aO
 clear hO hcs hG
 go_enter Tryz.func183,Tryz.ntmps183
 go_wp2_with fail
 refine zg 10 [] none [] ?_
 simp only[zt]
 repeat ((first|refine zd ?_|refine zk ?_);simp only[zp])
 intro W1 hE hF
 have HB1:=ae (aX HB0.o hE.below)
 clear hE hF c0 f0 pI n01 n02
 obtain⟨c1,f1,l1⟩:=af ((HB1.o.block _ lw).trans HO.o.blk)
 obtain⟨xg,hcs1⟩:=HW.o W1 (HB1.o.mono gQ)
 have n10:=hcs1 0 (by simp)
 simp only[ax] at n10
 have n11:=hcs1 1 (by simp)
 simp only[ax] at n11
 have n12:=hcs1 2 (by simp)
 simp only[ax] at n12
 clear hcs1
 go_wp2_with fail
 refine(je _ _ _).mono ?_
 rintro e W2 ⟨hb,⟨hc,rfl⟩|⟨hc,rfl⟩⟩
 rotate_left
 ·simp at hc
  simp only[iU,dh,dm,dB]
  (repeat (first|rw[aC (by omega)]|rw[aj (by omega)]))
  exact⟨rfl,(aX HB1.o hb).mono gQ,.inr ⟨by simp,rfl⟩⟩
 simp at hc
 have HB2:=ae (aX HB1.o hb)
 have HS2:=ae hb
 have jT:=ae hc
 clear hb hc c1 f1 xg n10 n11 n12
 obtain⟨c2,f2,l2⟩:=af ((HB2.o.block _ lw).trans HO.o.blk)
 obtain⟨xX,hcs2⟩:=HW.o W2 (HB2.o.mono gQ)
 have n20:=hcs2 0 (by simp)
 simp only[ax] at n20
 have n21:=hcs2 1 (by simp)
 simp only[ax] at n21
 have n22:=hcs2 2 (by simp)
 simp only[ax] at n22
 clear hcs2
 go_wp2_with fail
 refine RX.gG (fun ps W'=> ¬(y<=z/\z<=2000)/\ps=kG 2/\Below N w W') 12 [] none [(9,⟨fun _ v=>v=rv (y,z),fun _ _ _=>(y<=z/\z<=2000)⟩),(11,Spec.block W2.heap.size #[iv 0,iv 0,iv 0] 120)] (by rintro ps a1 Wx hdf ⟨h1,rfl,h3⟩;refine⟨hdf,wU (c:=2) h3 ?_ (by decide)⟩;have q0:=jT.o;simp only[iU,dh,dm,dB];(repeat (first|rw[aC (by omega)]|rw[aj (by omega)]))) (by as_aux_lemma=>kernel_rfl) (by as_aux_lemma=>kernel_rfl) ?_
 simp only[zt]
 repeat (refine RX.zd ?_;simp only[zp])
 refine RX.bJ _ (by rfl) (by rfl) ⟨_,rfl⟩ (fun Wq hE2 hF2=>?_) (fun v Wa Wb ho hE=>ho) (fun v hv=>?_)
 ·have hE':Ext [] W2 Wq:=hE2
  refine RX.dG 253 #[iv y,iv z] (by go_simp;try rfl) ?_
  refine(wB y z Wq).mono ?_
  rintro e w' ⟨hb,⟨hc,rfl⟩|⟨hc,rfl⟩⟩
  ·exact .inl ⟨_,rfl,rfl,hc,Ext.az hb⟩
  ·exact .inr ⟨_,rfl,hc,rfl,(aX HB2.o (aX hE'.below hb)).mono gQ⟩
 obtain rfl:v=rv (y,z):=hv
 simp only[zp]
 repeat (refine RX.zd ?_;simp only[zp])
 refine RX.jZ W2.heap.size _ _ (by rfl) (ai _) (by rfl) (by simp) (by simp) (fun W hW=>by go_simp;try rfl) (fun b9=>?_)
 simp only[zp]
 intro Wb hE hF
 obtain⟨b9',rW,hge,hk9⟩:=hF _ (bg _)
 cases rW
 have hc:y<=z/\z<=2000:=hF _ (nC _ (bg _))
 have HBb:=ae (aX HB2.o (show Ext [] W2 Wb from hE).below)
 have rM:=ae hc
 have mW:=ae (ag (jo HB2.o.size hge) hk9)
 obtain⟨c9,f9,l9⟩:=af hk9
 clear hE hF hc hge hk9 c2 f2 xX n20 n21 n22
 go_upto_region 2 with(fail)
 refine dH fun W3 qB=>?_
 have HB3:=ae (show Below w.heap.size w W3 from by rw[qB];exact(((HBb.o).setCell mW.o.1 _).setCell mW.o.1 _).setCell mW.o.1 _)
 have Ed:=ae (show W3.heap[b9]? =some (.cells #[iv x,iv y,iv z] 120 (0,0)) from by rw[qB];exact aI (aI (aI (mW.o.2) _) _) _)
 have ZY:b9<W3.heap.size:=(aV.1 Ed.o).1
 clear qB c9 f9 l9
 obtain⟨c3,f3,l3⟩:=af ((HB3.o.block _ lw).trans HO.o.blk)
 obtain⟨Kz,hcs3⟩:=HW.o W3 (HB3.o.mono gQ)
 have n30:=hcs3 0 (by simp)
 simp only[ax] at n30
 have n31:=hcs3 1 (by simp)
 simp only[ax] at n31
 have n32:=hcs3 2 (by simp)
 simp only[ax] at n32
 clear hcs3
 go_wp2_with fail
 refine(qU _ _ _).mono ?_
 rintro e W4 ⟨hb,⟨hc,rfl⟩|⟨hc,rfl⟩⟩
 rotate_left
 ·simp at hc
  have q0:=jT.o
  have q1:=rM.o
  simp only[iU,dh,dm,dB]
  (repeat (first|rw[aC (by omega)]|rw[aj (by omega)]))
  exact⟨rfl,(aX HB3.o hb).mono gQ,.inr ⟨by simp,rfl⟩⟩
 simp at hc
 have HB4:=ae (aX HB3.o hb)
 have VQ:=ae hb
 have xM:=ae hc
 clear hb hc c3 f3 Kz n30 n31 n32
 obtain⟨c4,f4,l4⟩:=af ((HB4.o.block _ lw).trans HO.o.blk)
 obtain⟨QY,kD⟩:=HW.o W4 (HB4.o.mono gQ)
 have n40:=kD 0 (by simp)
 simp only[ax] at n40
 have n41:=kD 1 (by simp)
 simp only[ax] at n41
 have n42:=kD 2 (by simp)
 simp only[ax] at n42
 clear kD
 go_wp2_with fail
 obtain⟨Ms,hMs⟩: ∃Ms,Ms=(Value.slice o s.led.notes.length cc).ownBlock.toList:=⟨_,rfl⟩
 have hO4:=HO.o.below HB4.o
 have hm1:wb∉Ms:=fun h=>hO4.rows.off 1 _ rfl (by rw[hMs] at h;exact dM.1 h)
 have hm2:b∉Ms:=fun h=>by have:=((hO4.rows.own 1 _ rfl).lt b (by rw[hMs] at h;exact dM.1 h)).1;omega
 have xJ: ∀m∈Ms,m<W4.heap.size:=fun m h=>((hO4.rows.own 1 _ rfl).lt m (by rw[hMs] at h;exact dM.1 h)).2
 obtain⟨c9,f9,l9⟩:=af ((VQ.o.block _ ZY).trans Ed.o)
 have hm9:b9∉Ms:=fun h=>by have:=((HO.o.rows.own 1 _ rfl).lt b9 (by rw[hMs] at h;exact dM.1 h)).2;have:=mW.o.1;omega
 have HM:=ae hMs
 have jB:=ae hO4
 clear hMs hO4
 refine zg 10 Ms (some 9) [(8,Spec.slice W4.heap.size #[iv x,iv y,iv z] 120 1),(9,⟨fun _ v=> ∃o2 c2,v= .slice o2 (s.led.notes.length+1) c2,fun _ v Wx=>Wx.ownsRow N 120 3 v (s.led.notes.length+1) (aY s.led.notes++[iv x,iv y,iv z])/\(v.ownBlock=(Value.slice o s.led.notes.length cc).ownBlock∨ ∃q,v.ownBlock=some q/\W4.heap.size<=q)⟩)] ?_
 simp only[zt]
 repeat ((first|refine zd ?_|refine zk ?_);simp only[zp])
 refine cu W4.heap.size _ _ 1 (by rfl) (ai _) (by rfl) xJ (by simp) (fun W hW=>by go_simp;try rfl) (fun b6=>?_)
 simp only[zp]
 repeat ((first|refine zd ?_|refine zk ?_);simp only[zp])
 refine bJ _ (by rfl) (by rfl) (by exact⟨.slice none (s.led.notes.length+1) 0,none,0,rfl⟩) (fun W6 hE hF=>?_) (fun v Wa Wb ho hE=>?_) (fun v hv=>?_)
 ·have hE':Ext [] W4 W6:=hE
  obtain⟨b',hb',hge,hcc⟩:=hF _ (bg _) (by kernel_rfl)
  cases hb'
  have hown6:W6.ownsRow N 120 3 (.slice o s.led.notes.length cc) s.led.notes.length (aY s.led.notes):=aA (Ms:=[]) (jB.o.rows.own 1 _ rfl) hE' (by simp)
  have hsrc:aK 3 W6 (.slice (some ⟨b6,0,none⟩) 1 1) 1 ([iv x,iv y,iv z]):=aK.dw 3 1 hcc rfl (by decide)
  refine Does.mono (dU ach (by rfl) (by rfl) hown6 (by rfl) hsrc (GH x y z) (by omega) (by omega) (by have:=hE'.size;have:=HB4.o.size;omega)) ?_
  rintro v' W7 ⟨ho,hgr,hcase⟩
  refine⟨aU ho,⟨ho,?_⟩,⟨hgr.os,hgr.tape,hgr.output,hgr.size,fun b hb hn=>hgr.block b hb (fun e=>hn (by rw[HM.o];exact dM.2 e.symm))⟩⟩
  rcases hcase with h1|h1
  ·exact .inl h1
  ·exact .inr ⟨_,h1,hE'.size⟩
 ·exact⟨aA (Ms:=[]) ho.1 hE (by simp),ho.2⟩
 obtain⟨o7,c7,rfl⟩:=hv
 simp only[zp]
 intro W5 hE hF
 obtain⟨qM,AA⟩:=hF _ (bg _)
 have ig:Ext Ms W4 W5:=hE
 have hbl:=(ig.block wb jB.o.rows.lt hm1).trans jB.o.blk
 obtain⟨c5,f5,l5⟩:=af hbl
 have iZ:=ae (ag ig (ag qM (ag AA hbl)))
 have EW:Below N w W5:=(HB4.o.mono gQ).trans ⟨ig.os,ig.tape,ig.output,ig.size,fun k hk=>ig.block k (by have:=HB4.o.size;omega) (fun h=>by have:=((jB.o.rows.own 1 _ rfl).lt k (by rw[HM.o] at h;exact dM.1 h)).1;omega)⟩
 have pO:=ae EW
 clear hE hF ig qM AA hbl EW hm1 hm2 xJ c4 f4 QY n40 n41 n42
 go_wp2_with fail
 go_end0
 have q0:=jT.o
 have q1:=rM.o
 have q2:=xM.o
 simp only[iU,dh,dm,dB]
 (repeat (first|rw[aC (by omega)]|rw[aj (by omega)]))
 refine⟨pO.o.setCell wQ _,.inl ⟨rfl,rfl,⟨vt,.slice o7 (s.led.notes.length+1) c7,vw,vu,vr,vh,vk,vs⟩,es,jB.o.put (i:=1) rfl ⟨120,3,.slice o7 (s.led.notes.length+1) c7,s.led.notes.length+1,aY s.led.notes++[iv x,iv y,iv z]⟩ iZ.o.1 (fun m hm=>by rw[HM.o] at hm;exact dM.1 hm) iZ.o.2.1 iZ.o.2.2.1 (aI iZ.o.2.2.2 _) (by simp[iM,oP,aY]) (jB.o.es)⟩⟩
theorem LH (N:Nat) (w:World) (wb:Nat) (s:jA) (V:SV) (es:List KE) (ns:Value) (x y z p q:Int) (hO:jX N w wb s V es) (hn:sD N w ns [x,y,z,p,q]) (hG:fZ s) (hyz:y<z):Calls Tryz.prog 178 #[.pointer (some ⟨wb,0,none⟩),ns] w (rJ N wb (iU s .tally [x,y,z,p,q]) w):=by
 obtain⟨vt,vn,vw,vu,vr,vh,vk,vs⟩:=V
 obtain⟨o,cc,rfl⟩: ∃o c,vt= .slice o s.led.field.au.length c:=aU (n:=s.led.field.au.length) (hO.rows.own 0 _ rfl)
 have HO:=ae hO
 have gQ:=eU hO
 obtain⟨b,c,rfl,hbN,hcs⟩:=hn
 have lb:b<w.heap.size:=by omega
 have lw:=hO.rows.lt
 have wQ:=hO.rows.base
 have HW:Hid (∀W,Below N w W->b<W.heap.size/\ ∀(j:Nat) (h:j<[x,y,z,p,q].length),W.cell? ⟨b,j,none⟩=some (iv [x,y,z,p,q][j])):=ae (fun W hB=>⟨by have:=hB.size;omega,fun j h=>(jd (hB.block b hbN)).trans (hcs j h)⟩)
 obtain⟨c0,f0,l0⟩:=af hO.blk
 have pI:=hcs 0 (by simp)
 simp only[ax] at pI
 have n01:=hcs 1 (by simp)
 simp only[ax] at n01
 have n02:=hcs 2 (by simp)
 simp only[ax] at n02
 have n03:=hcs 3 (by simp)
 simp only[ax] at n03
 have n04:=hcs 4 (by simp)
 simp only[ax] at n04
 have HB0:Hid (Below w.heap.size w w):=ae (aG _ _)
 have MO:=hG.Ah
 have hwe:=hG.aO
 have jT:=ae hyz
 clear hO hcs hG
 go_enter Tryz.func178,Tryz.ntmps178
 go_wp2_with fail
 refine zg 7 [] none [] ?_
 simp only[zt]
 repeat ((first|refine zd ?_|refine zk ?_);simp only[zp])
 intro W1 hE hF
 have HB1:=ae (aX HB0.o hE.below)
 clear hE hF c0 f0 pI n01 n02 n03 n04
 obtain⟨c1,f1,l1⟩:=af ((HB1.o.block _ lw).trans HO.o.blk)
 obtain⟨xg,hcs1⟩:=HW.o W1 (HB1.o.mono gQ)
 have n10:=hcs1 0 (by simp)
 simp only[ax] at n10
 have n11:=hcs1 1 (by simp)
 simp only[ax] at n11
 have n12:=hcs1 2 (by simp)
 simp only[ax] at n12
 have n13:=hcs1 3 (by simp)
 simp only[ax] at n13
 have n14:=hcs1 4 (by simp)
 simp only[ax] at n14
 clear hcs1
 go_wp2_with fail
 refine(je _ _ _).mono ?_
 rintro e W2 ⟨hb,⟨hc,rfl⟩|⟨hc,rfl⟩⟩
 rotate_left
 ·simp at hc
  have q0:=jT.o
  simp only[iU,dh,dm,dB]
  (repeat (first|rw[aC (by omega)]|rw[aj (by omega)]))
  exact⟨rfl,(aX HB1.o hb).mono gQ,.inr ⟨by simp,rfl⟩⟩
 simp at hc
 have HB2:=ae (aX HB1.o hb)
 have HS2:=ae hb
 have rM:=ae hc
 clear hb hc c1 f1 xg n10 n11 n12 n13 n14
 obtain⟨c2,f2,l2⟩:=af ((HB2.o.block _ lw).trans HO.o.blk)
 obtain⟨xX,hcs2⟩:=HW.o W2 (HB2.o.mono gQ)
 have n20:=hcs2 0 (by simp)
 simp only[ax] at n20
 have n21:=hcs2 1 (by simp)
 simp only[ax] at n21
 have n22:=hcs2 2 (by simp)
 simp only[ax] at n22
 have n23:=hcs2 3 (by simp)
 simp only[ax] at n23
 have n24:=hcs2 4 (by simp)
 simp only[ax] at n24
 clear hcs2
 go_wp2_with fail
 refine zg 11 [] none [] ?_
 simp only[zt]
 repeat ((first|refine zd ?_|refine zk ?_);simp only[zp])
 intro W3 hE hF
 have HB3:=ae (aX HB2.o hE.below)
 clear hE hF c2 f2 xX n20 n21 n22 n23 n24
 obtain⟨c3,f3,l3⟩:=af ((HB3.o.block _ lw).trans HO.o.blk)
 obtain⟨Kz,hcs3⟩:=HW.o W3 (HB3.o.mono gQ)
 have n30:=hcs3 0 (by simp)
 simp only[ax] at n30
 have n31:=hcs3 1 (by simp)
 simp only[ax] at n31
 have n32:=hcs3 2 (by simp)
 simp only[ax] at n32
 have n33:=hcs3 3 (by simp)
 simp only[ax] at n33
 have n34:=hcs3 4 (by simp)
 simp only[ax] at n34
 clear hcs3
 go_wp2_with fail
 clear hyz
 refine(je _ _ _).mono ?_
 rintro e W4 ⟨hb,⟨hc,rfl⟩|⟨hc,rfl⟩⟩
 rotate_left
 ·simp at hc
  have q0:=jT.o
  have q1:=rM.o
  simp only[iU,dh,dm,dB]
  (repeat (first|rw[aC (by omega)]|rw[aj (by omega)]))
  exact⟨rfl,(aX HB3.o hb).mono gQ,.inr ⟨by simp,rfl⟩⟩
 simp at hc
 have HB4:=ae (aX HB3.o hb)
 have VQ:=ae hb
 have xM:=ae hc
 clear hb hc c3 f3 Kz n30 n31 n32 n33 n34
 obtain⟨c4,f4,l4⟩:=af ((HB4.o.block _ lw).trans HO.o.blk)
 obtain⟨QY,kD⟩:=HW.o W4 (HB4.o.mono gQ)
 have n40:=kD 0 (by simp)
 simp only[ax] at n40
 have n41:=kD 1 (by simp)
 simp only[ax] at n41
 have n42:=kD 2 (by simp)
 simp only[ax] at n42
 have n43:=kD 3 (by simp)
 simp only[ax] at n43
 have n44:=kD 4 (by simp)
 simp only[ax] at n44
 clear kD
 go_wp2_with fail
 refine zg 6 [] none [] ?_
 simp only[zt]
 repeat ((first|refine zd ?_|refine zk ?_);simp only[zp])
 intro W5 hE hF
 have nM:=ae (aX HB4.o hE.below)
 clear hE hF c4 f4 QY n40 n41 n42 n43 n44
 obtain⟨c5,f5,l5⟩:=af ((nM.o.block _ lw).trans HO.o.blk)
 obtain⟨lb5,uQ⟩:=HW.o W5 (nM.o.mono gQ)
 have n50:=uQ 0 (by simp)
 simp only[ax] at n50
 have n51:=uQ 1 (by simp)
 simp only[ax] at n51
 have n52:=uQ 2 (by simp)
 simp only[ax] at n52
 have n53:=uQ 3 (by simp)
 simp only[ax] at n53
 have n54:=uQ 4 (by simp)
 simp only[ax] at n54
 clear uQ
 go_wp2_with fail
 refine(eF 2 [decide (z<y)] W5 (by simp) _ (by simp[dN]) _ _ rfl).mono ?_
 rintro e W6 ⟨hb,⟨hc,rfl⟩|⟨hc,rfl⟩⟩
 rotate_left
 ·simp at hc
  have q0:=jT.o
  have q1:=rM.o
  have q2:=xM.o
  (exfalso;omega)
 simp at hc
 have qo:=ae (aX nM.o hb)
 have HS6:=ae hb
 have Ja:=ae hc
 clear hb hc c5 f5 lb5 n50 n51 n52 n53 n54
 obtain⟨c6,f6,l6⟩:=af ((qo.o.block _ lw).trans HO.o.blk)
 obtain⟨lb6,uP⟩:=HW.o W6 (qo.o.mono gQ)
 have n60:=uP 0 (by simp)
 simp only[ax] at n60
 have n61:=uP 1 (by simp)
 simp only[ax] at n61
 have n62:=uP 2 (by simp)
 simp only[ax] at n62
 have n63:=uP 3 (by simp)
 simp only[ax] at n63
 have n64:=uP 4 (by simp)
 simp only[ax] at n64
 clear uP
 go_wp2_with fail
 refine RX.gG (fun ps W'=> ¬(p<=q/\q<=s.led.field.rows)/\ps=kG 2/\Below N w W') 19 [] none [(16,⟨fun _ v=>v=rv (p,q),fun _ _ _=>(p<=q/\q<=s.led.field.rows)⟩),(18,Spec.block W6.heap.size #[iv 0,iv 0,iv 0,iv 0,iv 0] 118)] (by rintro ps a1 Wx hdf ⟨h1,rfl,h3⟩;refine⟨hdf,wU (c:=2) h3 ?_ (by decide)⟩;have q0:=jT.o;have q1:=rM.o;have q2:=xM.o;have q3:=Ja.o;simp only[iU,dh,dm,dB];(repeat (first|rw[aC (by omega)]|rw[aj (by omega)]))) (by as_aux_lemma=>kernel_rfl) (by as_aux_lemma=>kernel_rfl) ?_
 simp only[zt]
 repeat (refine RX.zd ?_;simp only[zp])
 refine RX.bJ _ (by rfl) (by rfl) ⟨_,rfl⟩ (fun Wq hE2 hF2=>?_) (fun v Wa Wb ho hE=>ho) (fun v hv=>?_)
 ·have hE':Ext [] W6 Wq:=hE2
  refine RX.dG 250 #[.pointer (some ⟨wb,0,none⟩),iv p,iv q] (by go_simp;try rfl) ?_
  refine(vC p q wb s _ Wq ((hE'.block _ (fP lw qo.o.size) (by simp)).trans ((qo.o.block _ lw).trans HO.o.blk))).mono ?_
  rintro e w' ⟨hb,⟨hc,rfl⟩|⟨hc,rfl⟩⟩
  ·exact .inl ⟨_,rfl,rfl,hc,Ext.az hb⟩
  ·exact .inr ⟨_,rfl,hc,rfl,(aX qo.o (aX hE'.below hb)).mono gQ⟩
 obtain rfl:v=rv (p,q):=hv
 simp only[zp]
 repeat (refine RX.zd ?_;simp only[zp])
 refine RX.jZ W6.heap.size _ _ (by rfl) (ai _) (by rfl) (by simp) (by simp) (fun W hW=>by go_simp;try rfl) (fun b9=>?_)
 simp only[zp]
 intro Wb hE hF
 obtain⟨b9',rW,hge,hk9⟩:=hF _ (bg _)
 cases rW
 have hc:p<=q/\q<=s.led.field.rows:=hF _ (nC _ (bg _))
 have HBb:=ae (aX qo.o (show Ext [] W6 Wb from hE).below)
 have VR:=ae hc
 have mW:=ae (ag (jo qo.o.size hge) hk9)
 obtain⟨c9,f9,l9⟩:=af hk9
 clear hE hF hc hge hk9 c6 f6 lb6 n60 n61 n62 n63 n64
 go_upto_region 5 with(fail)
 refine dH fun W7 qB=>?_
 have xN:=ae (show Below w.heap.size w W7 from by rw[qB];exact(((((HBb.o).setCell mW.o.1 _).setCell mW.o.1 _).setCell mW.o.1 _).setCell mW.o.1 _).setCell mW.o.1 _)
 have Ed:=ae (show W7.heap[b9]? =some (.cells #[iv x,iv y,iv z,iv p,iv q] 118 (0,0)) from by rw[qB];exact aI (aI (aI (aI (aI (mW.o.2) _) _) _) _) _)
 have ZY:b9<W7.heap.size:=(aV.1 Ed.o).1
 clear qB c9 f9 l9
 obtain⟨c7,f7,l7⟩:=af ((xN.o.block _ lw).trans HO.o.blk)
 obtain⟨lb7,uO⟩:=HW.o W7 (xN.o.mono gQ)
 have n70:=uO 0 (by simp)
 simp only[ax] at n70
 have n71:=uO 1 (by simp)
 simp only[ax] at n71
 have n72:=uO 2 (by simp)
 simp only[ax] at n72
 have n73:=uO 3 (by simp)
 simp only[ax] at n73
 have n74:=uO 4 (by simp)
 simp only[ax] at n74
 clear uO
 go_wp2_with fail
 refine(qU _ _ _).mono ?_
 rintro e W8 ⟨hb,⟨hc,rfl⟩|⟨hc,rfl⟩⟩
 rotate_left
 ·simp at hc
  have q0:=jT.o
  have q1:=rM.o
  have q2:=xM.o
  have q3:=Ja.o
  have q4:=VR.o
  simp only[iU,dh,dm,dB]
  (repeat (first|rw[aC (by omega)]|rw[aj (by omega)]))
  exact⟨rfl,(aX xN.o hb).mono gQ,.inr ⟨by simp,rfl⟩⟩
 simp at hc
 have pO:=ae (aX xN.o hb)
 have HS8:=ae hb
 have HQ5:=ae hc
 clear hb hc c7 f7 lb7 n70 n71 n72 n73 n74
 obtain⟨c8,f8,l8⟩:=af ((pO.o.block _ lw).trans HO.o.blk)
 obtain⟨lb8,Dv⟩:=HW.o W8 (pO.o.mono gQ)
 have n80:=Dv 0 (by simp)
 simp only[ax] at n80
 have n81:=Dv 1 (by simp)
 simp only[ax] at n81
 have n82:=Dv 2 (by simp)
 simp only[ax] at n82
 have n83:=Dv 3 (by simp)
 simp only[ax] at n83
 have n84:=Dv 4 (by simp)
 simp only[ax] at n84
 clear Dv
 go_wp2_with fail
 obtain⟨Ms,hMs⟩: ∃Ms,Ms=(Value.slice o s.led.field.au.length cc).ownBlock.toList:=⟨_,rfl⟩
 have Hz:=HO.o.below pO.o
 have hm1:wb∉Ms:=fun h=>Hz.rows.off 0 _ rfl (by rw[hMs] at h;exact dM.1 h)
 have hm2:b∉Ms:=fun h=>by have:=((Hz.rows.own 0 _ rfl).lt b (by rw[hMs] at h;exact dM.1 h)).1;omega
 have xJ: ∀m∈Ms,m<W8.heap.size:=fun m h=>((Hz.rows.own 0 _ rfl).lt m (by rw[hMs] at h;exact dM.1 h)).2
 obtain⟨c9,f9,l9⟩:=af ((HS8.o.block _ ZY).trans Ed.o)
 have hm9:b9∉Ms:=fun h=>by have:=((HO.o.rows.own 0 _ rfl).lt b9 (by rw[hMs] at h;exact dM.1 h)).2;have:=mW.o.1;omega
 have HM:=ae hMs
 have jB:=ae Hz
 clear hMs Hz
 refine zg 8 Ms (some 7) [(6,Spec.slice W8.heap.size #[iv x,iv y,iv z,iv p,iv q] 118 1),(7,⟨fun _ v=> ∃o2 c2,v= .slice o2 (s.led.field.au.length+1) c2,fun _ v Wx=>Wx.ownsRow N 118 5 v (s.led.field.au.length+1) (dS s.led.field.au++[iv x,iv y,iv z,iv p,iv q])/\(v.ownBlock=(Value.slice o s.led.field.au.length cc).ownBlock∨ ∃q,v.ownBlock=some q/\W8.heap.size<=q)⟩)] ?_
 simp only[zt]
 repeat ((first|refine zd ?_|refine zk ?_);simp only[zp])
 refine cu W8.heap.size _ _ 1 (by rfl) (ai _) (by rfl) xJ (by simp) (fun W hW=>by go_simp;try rfl) (fun b6=>?_)
 simp only[zp]
 repeat ((first|refine zd ?_|refine zk ?_);simp only[zp])
 refine bJ _ (by rfl) (by rfl) (by exact⟨.slice none (s.led.field.au.length+1) 0,none,0,rfl⟩) (fun W6 hE hF=>?_) (fun v Wa Wb ho hE=>?_) (fun v hv=>?_)
 ·have hE':Ext [] W8 W6:=hE
  obtain⟨b',hb',hge,hcc⟩:=hF _ (bg _) (by kernel_rfl)
  cases hb'
  have hown6:W6.ownsRow N 118 5 (.slice o s.led.field.au.length cc) s.led.field.au.length (dS s.led.field.au):=aA (Ms:=[]) (jB.o.rows.own 0 _ rfl) hE' (by simp)
  have hsrc:aK 5 W6 (.slice (some ⟨b6,0,none⟩) 1 1) 1 ([iv x,iv y,iv z,iv p,iv q]):=aK.dw 5 1 hcc rfl (by decide)
  refine Does.mono (dU Zm (by rfl) (by rfl) hown6 (by rfl) hsrc (OI x y z p q) (by omega) (by omega) (by have:=hE'.size;have:=pO.o.size;omega)) ?_
  rintro v' W7 ⟨ho,hgr,hcase⟩
  refine⟨aU ho,⟨ho,?_⟩,⟨hgr.os,hgr.tape,hgr.output,hgr.size,fun b hb hn=>hgr.block b hb (fun e=>hn (by rw[HM.o];exact dM.2 e.symm))⟩⟩
  rcases hcase with h1|h1
  ·exact .inl h1
  ·exact .inr ⟨_,h1,hE'.size⟩
 ·exact⟨aA (Ms:=[]) ho.1 hE (by simp),ho.2⟩
 obtain⟨o7,c7,rfl⟩:=hv
 simp only[zp]
 intro W9 hE hF
 obtain⟨qM,AA⟩:=hF _ (bg _)
 have ig:Ext Ms W8 W9:=hE
 have hbl:=(ig.block wb jB.o.rows.lt hm1).trans jB.o.blk
 obtain⟨c9,f9,l9⟩:=af hbl
 have iZ:=ae (ag ig (ag qM (ag AA hbl)))
 have EW:Below N w W9:=(pO.o.mono gQ).trans ⟨ig.os,ig.tape,ig.output,ig.size,fun k hk=>ig.block k (by have:=pO.o.size;omega) (fun h=>by have:=((jB.o.rows.own 0 _ rfl).lt k (by rw[HM.o] at h;exact dM.1 h)).1;omega)⟩
 have pO:=ae EW
 clear hE hF ig qM AA hbl EW hm1 hm2 xJ c8 f8 lb8 n80 n81 n82 n83 n84
 go_wp2_with fail
 go_end0
 have q0:=jT.o
 have q1:=rM.o
 have q2:=xM.o
 have q3:=Ja.o
 have q4:=VR.o
 have q5:=HQ5.o
 simp only[iU,dh,dm,dB]
 (repeat (first|rw[aC (by omega)]|rw[aj (by omega)]))
 refine⟨pO.o.setCell wQ _,.inl ⟨rfl,rfl,⟨.slice o7 (s.led.field.au.length+1) c7,vn,vw,vu,vr,vh,vk,vs⟩,es,jB.o.put (i:=0) rfl ⟨118,5,.slice o7 (s.led.field.au.length+1) c7,s.led.field.au.length+1,dS s.led.field.au++[iv x,iv y,iv z,iv p,iv q]⟩ iZ.o.1 (fun m hm=>by rw[HM.o] at hm;exact dM.1 hm) iZ.o.2.1 iZ.o.2.2.1 (aI iZ.o.2.2.2 _) (by simp[iM,nG,dS]) (jB.o.es)⟩⟩
theorem LJ (N:Nat) (w:World) (wb:Nat) (s:jA) (V:SV) (es:List KE) (ns:Value) (x y z p q:Int) (hO:jX N w wb s V es) (hn:sD N w ns [x,y,z,p,q]) (hG:fZ s) (hyz:z<=y):Calls Tryz.prog 178 #[.pointer (some ⟨wb,0,none⟩),ns] w (rJ N wb (iU s .tally [x,y,z,p,q]) w):=by
 obtain⟨vt,vn,vw,vu,vr,vh,vk,vs⟩:=V
 obtain⟨o,cc,rfl⟩: ∃o c,vt= .slice o s.led.field.au.length c:=aU (n:=s.led.field.au.length) (hO.rows.own 0 _ rfl)
 have HO:=ae hO
 have gQ:=eU hO
 obtain⟨b,c,rfl,hbN,hcs⟩:=hn
 have lb:b<w.heap.size:=by omega
 have lw:=hO.rows.lt
 have wQ:=hO.rows.base
 have HW:Hid (∀W,Below N w W->b<W.heap.size/\ ∀(j:Nat) (h:j<[x,y,z,p,q].length),W.cell? ⟨b,j,none⟩=some (iv [x,y,z,p,q][j])):=ae (fun W hB=>⟨by have:=hB.size;omega,fun j h=>(jd (hB.block b hbN)).trans (hcs j h)⟩)
 obtain⟨c0,f0,l0⟩:=af hO.blk
 have pI:=hcs 0 (by simp)
 simp only[ax] at pI
 have n01:=hcs 1 (by simp)
 simp only[ax] at n01
 have n02:=hcs 2 (by simp)
 simp only[ax] at n02
 have n03:=hcs 3 (by simp)
 simp only[ax] at n03
 have n04:=hcs 4 (by simp)
 simp only[ax] at n04
 have HB0:Hid (Below w.heap.size w w):=ae (aG _ _)
 have MO:=hG.Ah
 have hwe:=hG.aO
 have jT:=ae hyz
 clear hO hcs hG
 go_enter Tryz.func178,Tryz.ntmps178
 go_wp2_with fail
 refine zg 7 [] none [] ?_
 simp only[zt]
 repeat ((first|refine zd ?_|refine zk ?_);simp only[zp])
 intro W1 hE hF
 have HB1:=ae (aX HB0.o hE.below)
 clear hE hF c0 f0 pI n01 n02 n03 n04
 obtain⟨c1,f1,l1⟩:=af ((HB1.o.block _ lw).trans HO.o.blk)
 obtain⟨xg,hcs1⟩:=HW.o W1 (HB1.o.mono gQ)
 have n10:=hcs1 0 (by simp)
 simp only[ax] at n10
 have n11:=hcs1 1 (by simp)
 simp only[ax] at n11
 have n12:=hcs1 2 (by simp)
 simp only[ax] at n12
 have n13:=hcs1 3 (by simp)
 simp only[ax] at n13
 have n14:=hcs1 4 (by simp)
 simp only[ax] at n14
 clear hcs1
 go_wp2_with fail
 refine(je _ _ _).mono ?_
 rintro e W2 ⟨hb,⟨hc,rfl⟩|⟨hc,rfl⟩⟩
 rotate_left
 ·simp at hc
  have q0:=jT.o
  simp only[iU,dh,dm,dB]
  (repeat (first|rw[aC (by omega)]|rw[aj (by omega)]))
  exact⟨rfl,(aX HB1.o hb).mono gQ,.inr ⟨by simp,rfl⟩⟩
 simp at hc
 have HB2:=ae (aX HB1.o hb)
 have HS2:=ae hb
 have rM:=ae hc
 clear hb hc c1 f1 xg n10 n11 n12 n13 n14
 obtain⟨c2,f2,l2⟩:=af ((HB2.o.block _ lw).trans HO.o.blk)
 obtain⟨xX,hcs2⟩:=HW.o W2 (HB2.o.mono gQ)
 have n20:=hcs2 0 (by simp)
 simp only[ax] at n20
 have n21:=hcs2 1 (by simp)
 simp only[ax] at n21
 have n22:=hcs2 2 (by simp)
 simp only[ax] at n22
 have n23:=hcs2 3 (by simp)
 simp only[ax] at n23
 have n24:=hcs2 4 (by simp)
 simp only[ax] at n24
 clear hcs2
 go_wp2_with fail
 refine zg 11 [] none [] ?_
 simp only[zt]
 repeat ((first|refine zd ?_|refine zk ?_);simp only[zp])
 intro W3 hE hF
 have HB3:=ae (aX HB2.o hE.below)
 clear hE hF c2 f2 xX n20 n21 n22 n23 n24
 obtain⟨c3,f3,l3⟩:=af ((HB3.o.block _ lw).trans HO.o.blk)
 obtain⟨Kz,hcs3⟩:=HW.o W3 (HB3.o.mono gQ)
 have n30:=hcs3 0 (by simp)
 simp only[ax] at n30
 have n31:=hcs3 1 (by simp)
 simp only[ax] at n31
 have n32:=hcs3 2 (by simp)
 simp only[ax] at n32
 have n33:=hcs3 3 (by simp)
 simp only[ax] at n33
 have n34:=hcs3 4 (by simp)
 simp only[ax] at n34
 clear hcs3
 go_wp2_with fail
 clear hyz
 refine(je _ _ _).mono ?_
 rintro e W4 ⟨hb,⟨hc,rfl⟩|⟨hc,rfl⟩⟩
 rotate_left
 ·simp at hc
  have q0:=jT.o
  have q1:=rM.o
  simp only[iU,dh,dm,dB]
  (repeat (first|rw[aC (by omega)]|rw[aj (by omega)]))
  exact⟨rfl,(aX HB3.o hb).mono gQ,.inr ⟨by simp,rfl⟩⟩
 simp at hc
 have HB4:=ae (aX HB3.o hb)
 have VQ:=ae hb
 have xM:=ae hc
 clear hb hc c3 f3 Kz n30 n31 n32 n33 n34
 obtain⟨c4,f4,l4⟩:=af ((HB4.o.block _ lw).trans HO.o.blk)
 obtain⟨QY,kD⟩:=HW.o W4 (HB4.o.mono gQ)
 have n40:=kD 0 (by simp)
 simp only[ax] at n40
 have n41:=kD 1 (by simp)
 simp only[ax] at n41
 have n42:=kD 2 (by simp)
 simp only[ax] at n42
 have n43:=kD 3 (by simp)
 simp only[ax] at n43
 have n44:=kD 4 (by simp)
 simp only[ax] at n44
 clear kD
 go_wp2_with fail
 refine zg 6 [] none [] ?_
 simp only[zt]
 repeat ((first|refine zd ?_|refine zk ?_);simp only[zp])
 intro W5 hE hF
 have nM:=ae (aX HB4.o hE.below)
 clear hE hF c4 f4 QY n40 n41 n42 n43 n44
 obtain⟨c5,f5,l5⟩:=af ((nM.o.block _ lw).trans HO.o.blk)
 obtain⟨lb5,uQ⟩:=HW.o W5 (nM.o.mono gQ)
 have n50:=uQ 0 (by simp)
 simp only[ax] at n50
 have n51:=uQ 1 (by simp)
 simp only[ax] at n51
 have n52:=uQ 2 (by simp)
 simp only[ax] at n52
 have n53:=uQ 3 (by simp)
 simp only[ax] at n53
 have n54:=uQ 4 (by simp)
 simp only[ax] at n54
 clear uQ
 go_wp2_with fail
 refine(eF 2 [decide (z<y)] W5 (by simp) _ (by simp[dN]) _ _ rfl).mono ?_
 rintro e W6 ⟨hb,⟨hc,rfl⟩|⟨hc,rfl⟩⟩
 rotate_left
 ·simp at hc
  have q0:=jT.o
  have q1:=rM.o
  have q2:=xM.o
  simp only[iU,dh,dm,dB]
  (repeat (first|rw[aC (by omega)]|rw[aj (by omega)]))
  exact⟨rfl,(aX nM.o hb).mono gQ,.inr ⟨by simp,rfl⟩⟩
 simp at hc
 have qo:=ae (aX nM.o hb)
 have HS6:=ae hb
 have Ja:=ae hc
 clear hb hc c5 f5 lb5 n50 n51 n52 n53 n54
 obtain⟨c6,f6,l6⟩:=af ((qo.o.block _ lw).trans HO.o.blk)
 obtain⟨lb6,uP⟩:=HW.o W6 (qo.o.mono gQ)
 have n60:=uP 0 (by simp)
 simp only[ax] at n60
 have n61:=uP 1 (by simp)
 simp only[ax] at n61
 have n62:=uP 2 (by simp)
 simp only[ax] at n62
 have n63:=uP 3 (by simp)
 simp only[ax] at n63
 have n64:=uP 4 (by simp)
 simp only[ax] at n64
 clear uP
 go_wp2_with fail
 refine RX.gG (fun ps W'=> ¬(p<=q/\q<=s.led.field.rows)/\ps=kG 2/\Below N w W') 19 [] none [(16,⟨fun _ v=>v=rv (p,q),fun _ _ _=>(p<=q/\q<=s.led.field.rows)⟩),(18,Spec.block W6.heap.size #[iv 0,iv 0,iv 0,iv 0,iv 0] 118)] (by rintro ps a1 Wx hdf ⟨h1,rfl,h3⟩;refine⟨hdf,wU (c:=2) h3 ?_ (by decide)⟩;have q0:=jT.o;have q1:=rM.o;have q2:=xM.o;have q3:=Ja.o;simp only[iU,dh,dm,dB];(repeat (first|rw[aC (by omega)]|rw[aj (by omega)]))) (by as_aux_lemma=>kernel_rfl) (by as_aux_lemma=>kernel_rfl) ?_
 simp only[zt]
 repeat (refine RX.zd ?_;simp only[zp])
 refine RX.bJ _ (by rfl) (by rfl) ⟨_,rfl⟩ (fun Wq hE2 hF2=>?_) (fun v Wa Wb ho hE=>ho) (fun v hv=>?_)
 ·have hE':Ext [] W6 Wq:=hE2
  refine RX.dG 250 #[.pointer (some ⟨wb,0,none⟩),iv p,iv q] (by go_simp;try rfl) ?_
  refine(vC p q wb s _ Wq ((hE'.block _ (fP lw qo.o.size) (by simp)).trans ((qo.o.block _ lw).trans HO.o.blk))).mono ?_
  rintro e w' ⟨hb,⟨hc,rfl⟩|⟨hc,rfl⟩⟩
  ·exact .inl ⟨_,rfl,rfl,hc,Ext.az hb⟩
  ·exact .inr ⟨_,rfl,hc,rfl,(aX qo.o (aX hE'.below hb)).mono gQ⟩
 obtain rfl:v=rv (p,q):=hv
 simp only[zp]
 repeat (refine RX.zd ?_;simp only[zp])
 refine RX.jZ W6.heap.size _ _ (by rfl) (ai _) (by rfl) (by simp) (by simp) (fun W hW=>by go_simp;try rfl) (fun b9=>?_)
 simp only[zp]
 intro Wb hE hF
 obtain⟨b9',rW,hge,hk9⟩:=hF _ (bg _)
 cases rW
 have hc:p<=q/\q<=s.led.field.rows:=hF _ (nC _ (bg _))
 have HBb:=ae (aX qo.o (show Ext [] W6 Wb from hE).below)
 have VR:=ae hc
 have mW:=ae (ag (jo qo.o.size hge) hk9)
 obtain⟨c9,f9,l9⟩:=af hk9
 clear hE hF hc hge hk9 c6 f6 lb6 n60 n61 n62 n63 n64
 go_upto_region 5 with(fail)
 refine dH fun W7 qB=>?_
 have xN:=ae (show Below w.heap.size w W7 from by rw[qB];exact(((((HBb.o).setCell mW.o.1 _).setCell mW.o.1 _).setCell mW.o.1 _).setCell mW.o.1 _).setCell mW.o.1 _)
 have Ed:=ae (show W7.heap[b9]? =some (.cells #[iv x,iv y,iv z,iv p,iv q] 118 (0,0)) from by rw[qB];exact aI (aI (aI (aI (aI (mW.o.2) _) _) _) _) _)
 have ZY:b9<W7.heap.size:=(aV.1 Ed.o).1
 clear qB c9 f9 l9
 obtain⟨c7,f7,l7⟩:=af ((xN.o.block _ lw).trans HO.o.blk)
 obtain⟨lb7,uO⟩:=HW.o W7 (xN.o.mono gQ)
 have n70:=uO 0 (by simp)
 simp only[ax] at n70
 have n71:=uO 1 (by simp)
 simp only[ax] at n71
 have n72:=uO 2 (by simp)
 simp only[ax] at n72
 have n73:=uO 3 (by simp)
 simp only[ax] at n73
 have n74:=uO 4 (by simp)
 simp only[ax] at n74
 clear uO
 go_wp2_with fail
 refine(qU _ _ _).mono ?_
 rintro e W8 ⟨hb,⟨hc,rfl⟩|⟨hc,rfl⟩⟩
 rotate_left
 ·simp at hc
  have q0:=jT.o
  have q1:=rM.o
  have q2:=xM.o
  have q3:=Ja.o
  have q4:=VR.o
  simp only[iU,dh,dm,dB]
  (repeat (first|rw[aC (by omega)]|rw[aj (by omega)]))
  exact⟨rfl,(aX xN.o hb).mono gQ,.inr ⟨by simp,rfl⟩⟩
 simp at hc
 have pO:=ae (aX xN.o hb)
 have HS8:=ae hb
 have HQ5:=ae hc
 clear hb hc c7 f7 lb7 n70 n71 n72 n73 n74
 obtain⟨c8,f8,l8⟩:=af ((pO.o.block _ lw).trans HO.o.blk)
 obtain⟨lb8,Dv⟩:=HW.o W8 (pO.o.mono gQ)
 have n80:=Dv 0 (by simp)
 simp only[ax] at n80
 have n81:=Dv 1 (by simp)
 simp only[ax] at n81
 have n82:=Dv 2 (by simp)
 simp only[ax] at n82
 have n83:=Dv 3 (by simp)
 simp only[ax] at n83
 have n84:=Dv 4 (by simp)
 simp only[ax] at n84
 clear Dv
 go_wp2_with fail
 obtain⟨Ms,hMs⟩: ∃Ms,Ms=(Value.slice o s.led.field.au.length cc).ownBlock.toList:=⟨_,rfl⟩
 have Hz:=HO.o.below pO.o
 have hm1:wb∉Ms:=fun h=>Hz.rows.off 0 _ rfl (by rw[hMs] at h;exact dM.1 h)
 have hm2:b∉Ms:=fun h=>by have:=((Hz.rows.own 0 _ rfl).lt b (by rw[hMs] at h;exact dM.1 h)).1;omega
 have xJ: ∀m∈Ms,m<W8.heap.size:=fun m h=>((Hz.rows.own 0 _ rfl).lt m (by rw[hMs] at h;exact dM.1 h)).2
 obtain⟨c9,f9,l9⟩:=af ((HS8.o.block _ ZY).trans Ed.o)
 have hm9:b9∉Ms:=fun h=>by have:=((HO.o.rows.own 0 _ rfl).lt b9 (by rw[hMs] at h;exact dM.1 h)).2;have:=mW.o.1;omega
 have HM:=ae hMs
 have jB:=ae Hz
 clear hMs Hz
 refine zg 8 Ms (some 7) [(6,Spec.slice W8.heap.size #[iv x,iv y,iv z,iv p,iv q] 118 1),(7,⟨fun _ v=> ∃o2 c2,v= .slice o2 (s.led.field.au.length+1) c2,fun _ v Wx=>Wx.ownsRow N 118 5 v (s.led.field.au.length+1) (dS s.led.field.au++[iv x,iv y,iv z,iv p,iv q])/\(v.ownBlock=(Value.slice o s.led.field.au.length cc).ownBlock∨ ∃q,v.ownBlock=some q/\W8.heap.size<=q)⟩)] ?_
 simp only[zt]
 repeat ((first|refine zd ?_|refine zk ?_);simp only[zp])
 refine cu W8.heap.size _ _ 1 (by rfl) (ai _) (by rfl) xJ (by simp) (fun W hW=>by go_simp;try rfl) (fun b6=>?_)
 simp only[zp]
 repeat ((first|refine zd ?_|refine zk ?_);simp only[zp])
 refine bJ _ (by rfl) (by rfl) (by exact⟨.slice none (s.led.field.au.length+1) 0,none,0,rfl⟩) (fun W6 hE hF=>?_) (fun v Wa Wb ho hE=>?_) (fun v hv=>?_)
 ·have hE':Ext [] W8 W6:=hE
  obtain⟨b',hb',hge,hcc⟩:=hF _ (bg _) (by kernel_rfl)
  cases hb'
  have hown6:W6.ownsRow N 118 5 (.slice o s.led.field.au.length cc) s.led.field.au.length (dS s.led.field.au):=aA (Ms:=[]) (jB.o.rows.own 0 _ rfl) hE' (by simp)
  have hsrc:aK 5 W6 (.slice (some ⟨b6,0,none⟩) 1 1) 1 ([iv x,iv y,iv z,iv p,iv q]):=aK.dw 5 1 hcc rfl (by decide)
  refine Does.mono (dU Zm (by rfl) (by rfl) hown6 (by rfl) hsrc (OI x y z p q) (by omega) (by omega) (by have:=hE'.size;have:=pO.o.size;omega)) ?_
  rintro v' W7 ⟨ho,hgr,hcase⟩
  refine⟨aU ho,⟨ho,?_⟩,⟨hgr.os,hgr.tape,hgr.output,hgr.size,fun b hb hn=>hgr.block b hb (fun e=>hn (by rw[HM.o];exact dM.2 e.symm))⟩⟩
  rcases hcase with h1|h1
  ·exact .inl h1
  ·exact .inr ⟨_,h1,hE'.size⟩
 ·exact⟨aA (Ms:=[]) ho.1 hE (by simp),ho.2⟩
 obtain⟨o7,c7,rfl⟩:=hv
 simp only[zp]
 intro W9 hE hF
 obtain⟨qM,AA⟩:=hF _ (bg _)
 have ig:Ext Ms W8 W9:=hE
 have hbl:=(ig.block wb jB.o.rows.lt hm1).trans jB.o.blk
 obtain⟨c9,f9,l9⟩:=af hbl
 have iZ:=ae (ag ig (ag qM (ag AA hbl)))
 have EW:Below N w W9:=(pO.o.mono gQ).trans ⟨ig.os,ig.tape,ig.output,ig.size,fun k hk=>ig.block k (by have:=pO.o.size;omega) (fun h=>by have:=((jB.o.rows.own 0 _ rfl).lt k (by rw[HM.o] at h;exact dM.1 h)).1;omega)⟩
 have pO:=ae EW
 clear hE hF ig qM AA hbl EW hm1 hm2 xJ c8 f8 lb8 n80 n81 n82 n83 n84
 go_wp2_with fail
 go_end0
 have q0:=jT.o
 have q1:=rM.o
 have q2:=xM.o
 have q3:=Ja.o
 have q4:=VR.o
 have q5:=HQ5.o
 simp only[iU,dh,dm,dB]
 (repeat (first|rw[aC (by omega)]|rw[aj (by omega)]))
 refine⟨pO.o.setCell wQ _,.inl ⟨rfl,rfl,⟨.slice o7 (s.led.field.au.length+1) c7,vn,vw,vu,vr,vh,vk,vs⟩,es,jB.o.put (i:=0) rfl ⟨118,5,.slice o7 (s.led.field.au.length+1) c7,s.led.field.au.length+1,dS s.led.field.au++[iv x,iv y,iv z,iv p,iv q]⟩ iZ.o.1 (fun m hm=>by rw[HM.o] at hm;exact dM.1 hm) iZ.o.2.1 iZ.o.2.2.1 (aI iZ.o.2.2.2 _) (by simp[iM,nG,dS]) (jB.o.es)⟩⟩
theorem zo (N:Nat) (w:World) (wb:Nat) (s:jA) (V:SV) (es:List KE) (ns:Value) (x y z p q:Int) (hO:jX N w wb s V es) (hn:sD N w ns [x,y,z,p,q]) (hG:fZ s):
 Calls Tryz.prog 178 #[.pointer (some ⟨wb,0,none⟩),ns] w (rJ N wb (iU s .tally [x,y,z,p,q]) w):=by
 by_cases h:y<z
 ·exact LH N w wb s V es ns x y z p q hO hn hG h
 ·exact LJ N w wb s V es ns x y z p q hO hn hG (by omega)
theorem try_any (N:Nat) (w:World) (wb:Nat) (s:jA) (V:SV) (es:List KE) (ns:Value) (x y z:Int) (hO:jX N w wb s V es) (hn:sD N w ns [x,y,z]) (hG:fZ s) (hx:(0<=x/\x<=9999)/\0<=y/\y<=9999):Calls Tryz.prog 195 #[.pointer (some ⟨wb,0,none⟩),ns] w (rJ N wb (iU s .Bh [x,y,z]) w):=by
 obtain⟨vt,vn,vw,vu,vr,vh,vk,vs⟩:=V
 obtain⟨ok,ck,rfl⟩: ∃o c,vk= .slice o es.length c:=aU (n:=es.length) (hO.rows.own 6 _ rfl)
 obtain⟨o,cc,rfl⟩: ∃o c,vs= .slice o s.bP.aJ.length c:=aU (n:=s.bP.aJ.length) (hO.rows.own 7 _ rfl)
 have HO:=ae hO
 have gQ:=eU hO
 obtain⟨b,c,rfl,hbN,hcs⟩:=hn
 have lb:b<w.heap.size:=by omega
 have lw:=hO.rows.lt
 have wQ:=hO.rows.base
 have HW:Hid (∀W,Below N w W->b<W.heap.size/\ ∀(j:Nat) (h:j<[x,y,z].length),W.cell? ⟨b,j,none⟩=some (iv [x,y,z][j])):=ae (fun W hB=>⟨by have:=hB.size;omega,fun j h=>(jd (hB.block b hbN)).trans (hcs j h)⟩)
 obtain⟨c0,f0,l0⟩:=af hO.blk
 have pI:=hcs 0 (by simp)
 simp only[ax] at pI
 have n01:=hcs 1 (by simp)
 simp only[ax] at n01
 have n02:=hcs 2 (by simp)
 simp only[ax] at n02
 have HB0:Hid (Below w.heap.size w w):=ae (aG _ _)
 have MO:=hG.aJ
 have hes:es.length=s.bP.aQ.length:=by rw[<-hO.es];simp
 have jT:=ae hes
 clear hes
 clear hO hcs hG
 go_enter Tryz.func195,Tryz.ntmps195
 go_wp2_with fail
 refine zg 8 [] none [] ?_
 simp only[zt]
 repeat ((first|refine zd ?_|refine zk ?_);simp only[zp])
 intro W1 hE hF
 have HB1:=ae (aX HB0.o hE.below)
 clear hE hF c0 f0 pI n01 n02
 obtain⟨c1,f1,l1⟩:=af ((HB1.o.block _ lw).trans HO.o.blk)
 obtain⟨xg,hcs1⟩:=HW.o W1 (HB1.o.mono gQ)
 have n10:=hcs1 0 (by simp)
 simp only[ax] at n10
 have n11:=hcs1 1 (by simp)
 simp only[ax] at n11
 have n12:=hcs1 2 (by simp)
 simp only[ax] at n12
 clear hcs1
 go_wp2_with fail
 refine(je _ _ _).mono ?_
 rintro e W2 ⟨hb,⟨hc,rfl⟩|⟨hc,rfl⟩⟩
 rotate_left
 ·simp at hc
  have q0:=jT.o
  simp only[iU,dh,dm,dB]
  (repeat (first|rw[aC (by omega)]|rw[aj (by omega)]))
  exact⟨rfl,(aX HB1.o hb).mono gQ,.inr ⟨by simp,rfl⟩⟩
 simp at hc
 have HB2:=ae (aX HB1.o hb)
 have HS2:=ae hb
 have rM:=ae hc
 clear hb hc c1 f1 xg n10 n11 n12
 obtain⟨c2,f2,l2⟩:=af ((HB2.o.block _ lw).trans HO.o.blk)
 obtain⟨xX,hcs2⟩:=HW.o W2 (HB2.o.mono gQ)
 have n20:=hcs2 0 (by simp)
 simp only[ax] at n20
 have n21:=hcs2 1 (by simp)
 simp only[ax] at n21
 have n22:=hcs2 2 (by simp)
 simp only[ax] at n22
 clear hcs2
 go_wp2_with fail
 refine RX.gG (fun ps W'=> ¬(y<=z/\z<=100/\z<=y+100)/\ps=kG 2/\Below N w W') 8 [] none [(6,⟨fun _ v=>v=rv (y,z),fun _ _ _=>(y<=z/\z<=100/\z<=y+100)⟩),(7,Spec.block W2.heap.size #[iv 0,iv 0] 112)] (by rintro ps a1 Wx hdf ⟨h1,rfl,h3⟩;refine⟨hdf,wU (c:=2) h3 ?_ (by decide)⟩;have q0:=jT.o;have q1:=rM.o;simp only[iU,dh,dm,dB];(repeat (first|rw[aC (by omega)]|rw[aj (by omega)]))) (by as_aux_lemma=>kernel_rfl) (by as_aux_lemma=>kernel_rfl) ?_
 simp only[zt]
 repeat (refine RX.zd ?_;simp only[zp])
 refine RX.bJ _ (by rfl) (by rfl) ⟨_,rfl⟩ (fun Wq hE2 hF2=>?_) (fun v Wa Wb ho hE=>ho) (fun v hv=>?_)
 ·have hE':Ext [] W2 Wq:=hE2
  refine RX.dG 260 #[iv y,iv z,iv 100] (by go_simp;try rfl) ?_
  refine(wS y z 100 Wq (by omega)).mono ?_
  rintro e w' ⟨hb,⟨hc,rfl⟩|⟨hc,rfl⟩⟩
  ·exact .inl ⟨_,rfl,rfl,hc,Ext.az hb⟩
  ·exact .inr ⟨_,rfl,hc,rfl,(aX HB2.o (aX hE'.below hb)).mono gQ⟩
 obtain rfl:v=rv (y,z):=hv
 simp only[zp]
 repeat (refine RX.zd ?_;simp only[zp])
 refine RX.jZ W2.heap.size _ _ (by rfl) (ai _) (by rfl) (by simp) (by simp) (fun W hW=>by go_simp;try rfl) (fun b9=>?_)
 simp only[zp]
 intro Wb hE hF
 obtain⟨b9',rW,hge,hk9⟩:=hF _ (bg _)
 cases rW
 have hc:y<=z/\z<=100/\z<=y+100:=hF _ (nC _ (bg _))
 have HBb:=ae (aX HB2.o (show Ext [] W2 Wb from hE).below)
 have xM:=ae hc
 have mW:=ae (ag (jo HB2.o.size hge) hk9)
 obtain⟨c9,f9,l9⟩:=af hk9
 clear hE hF hc hge hk9 c2 f2 xX n20 n21 n22
 go_upto_region 3 with(fail)
 refine dH fun W3 qB=>?_
 have HB3:=ae (show Below w.heap.size w W3 from by rw[qB];exact((HBb.o).setCell mW.o.1 _).setCell mW.o.1 _)
 have Ed:=ae (show W3.heap[b9]? =some (.cells #[iv y,iv z] 112 (0,0)) from by rw[qB];exact aI (aI (mW.o.2) _) _)
 have ZY:b9<W3.heap.size:=(aV.1 Ed.o).1
 clear qB c9 f9 l9
 obtain⟨c3,f3,l3⟩:=af ((HB3.o.block _ lw).trans HO.o.blk)
 obtain⟨Kz,hcs3⟩:=HW.o W3 (HB3.o.mono gQ)
 have n30:=hcs3 0 (by simp)
 simp only[ax] at n30
 have n31:=hcs3 1 (by simp)
 simp only[ax] at n31
 have n32:=hcs3 2 (by simp)
 simp only[ax] at n32
 clear hcs3
 go_wp2_with fail
 refine(qU _ _ _).mono ?_
 rintro e W4 ⟨hb,⟨hc,rfl⟩|⟨hc,rfl⟩⟩
 rotate_left
 ·simp at hc
  have q0:=jT.o
  have q1:=rM.o
  have q2:=xM.o
  simp only[iU,dh,dm,dB]
  (repeat (first|rw[aC (by omega)]|rw[aj (by omega)]))
  exact⟨rfl,(aX HB3.o hb).mono gQ,.inr ⟨by simp,rfl⟩⟩
 simp at hc
 have HB4:=ae (aX HB3.o hb)
 have VQ:=ae hb
 have Ja:=ae hc
 clear hb hc c3 f3 Kz n30 n31 n32
 obtain⟨c4,f4,l4⟩:=af ((HB4.o.block _ lw).trans HO.o.blk)
 obtain⟨QY,kD⟩:=HW.o W4 (HB4.o.mono gQ)
 have n40:=kD 0 (by simp)
 simp only[ax] at n40
 have n41:=kD 1 (by simp)
 simp only[ax] at n41
 have n42:=kD 2 (by simp)
 simp only[ax] at n42
 clear kD
 go_wp2_with fail
 obtain⟨Ms,hMs⟩: ∃Ms,Ms=(Value.slice o s.bP.aJ.length cc).ownBlock.toList:=⟨_,rfl⟩
 have hO4:=HO.o.below HB4.o
 have hm1:wb∉Ms:=fun h=>hO4.rows.off 7 _ rfl (by rw[hMs] at h;exact dM.1 h)
 have hm2:b∉Ms:=fun h=>by have:=((hO4.rows.own 7 _ rfl).lt b (by rw[hMs] at h;exact dM.1 h)).1;omega
 have xJ: ∀m∈Ms,m<W4.heap.size:=fun m h=>((hO4.rows.own 7 _ rfl).lt m (by rw[hMs] at h;exact dM.1 h)).2
 obtain⟨c9,f9,l9⟩:=af ((VQ.o.block _ ZY).trans Ed.o)
 have hm9:b9∉Ms:=fun h=>by have:=((HO.o.rows.own 7 _ rfl).lt b9 (by rw[hMs] at h;exact dM.1 h)).2;have:=mW.o.1;omega
 have HM:=ae hMs
 have jB:=ae hO4
 clear hMs hO4
 refine zg 12 Ms (some 11) [(10,Spec.slice W4.heap.size #[.bool true,iv x,iv y,iv z] 124 1),(11,⟨fun _ v=> ∃o2 c2,v= .slice o2 (s.bP.aJ.length+1) c2,fun _ v Wx=>Wx.ownsRow N 124 4 v (s.bP.aJ.length+1) (gV s.bP.aJ++[.bool true,iv x,iv y,iv z])/\(v.ownBlock=(Value.slice o s.bP.aJ.length cc).ownBlock∨ ∃q,v.ownBlock=some q/\W4.heap.size<=q)⟩)] ?_
 simp only[zt]
 repeat ((first|refine zd ?_|refine zk ?_);simp only[zp])
 refine cu W4.heap.size _ _ 1 (by rfl) (ai _) (by rfl) xJ (by simp) (fun W hW=>by go_simp;try rfl) (fun b6=>?_)
 simp only[zp]
 repeat ((first|refine zd ?_|refine zk ?_);simp only[zp])
 refine bJ _ (by rfl) (by rfl) (by exact⟨.slice none (s.bP.aJ.length+1) 0,none,0,rfl⟩) (fun W6 hE hF=>?_) (fun v Wa Wb ho hE=>?_) (fun v hv=>?_)
 ·have hE':Ext [] W4 W6:=hE
  obtain⟨b',hb',hge,hcc⟩:=hF _ (bg _) (by kernel_rfl)
  cases hb'
  have hown6:W6.ownsRow N 124 4 (.slice o s.bP.aJ.length cc) s.bP.aJ.length (gV s.bP.aJ):=aA (Ms:=[]) (jB.o.rows.own 7 _ rfl) hE' (by simp)
  have hsrc:aK 4 W6 (.slice (some ⟨b6,0,none⟩) 1 1) 1 ([.bool true,iv x,iv y,iv z]):=aK.dw 4 1 hcc rfl (by decide)
  refine Does.mono (dU acf (by rfl) (by rfl) hown6 (by rfl) hsrc (acs x y z) (by omega) (by omega) (by have:=hE'.size;have:=HB4.o.size;omega)) ?_
  rintro v' W7 ⟨ho,hgr,hcase⟩
  refine⟨aU ho,⟨ho,?_⟩,⟨hgr.os,hgr.tape,hgr.output,hgr.size,fun b hb hn=>hgr.block b hb (fun e=>hn (by rw[HM.o];exact dM.2 e.symm))⟩⟩
  rcases hcase with h1|h1
  ·exact .inl h1
  ·exact .inr ⟨_,h1,hE'.size⟩
 ·exact⟨aA (Ms:=[]) ho.1 hE (by simp),ho.2⟩
 obtain⟨o7,c7,rfl⟩:=hv
 simp only[zp]
 intro W5 hE hF
 obtain⟨qM,AA⟩:=hF _ (bg _)
 have ig:Ext Ms W4 W5:=hE
 have hbl:=(ig.block wb jB.o.rows.lt hm1).trans jB.o.blk
 obtain⟨c5,f5,l5⟩:=af hbl
 have iZ:=ae (ag ig (ag qM (ag AA hbl)))
 have EW:Below N w W5:=(HB4.o.mono gQ).trans ⟨ig.os,ig.tape,ig.output,ig.size,fun k hk=>ig.block k (by have:=HB4.o.size;omega) (fun h=>by have:=((jB.o.rows.own 7 _ rfl).lt k (by rw[HM.o] at h;exact dM.1 h)).1;omega)⟩
 have pO:=ae EW
 clear hE hF ig qM AA hbl EW hm1 hm2 xJ c4 f4 QY n40 n41 n42
 go_wp2_with fail
 go_end0
 have q0:=jT.o
 have q1:=rM.o
 have q2:=xM.o
 have q3:=Ja.o
 simp only[iU,dh,dm,dB]
 (repeat (first|rw[aC (by omega)]|rw[aj (by omega)]))
 refine⟨pO.o.setCell wQ _,.inl ⟨rfl,rfl,⟨vt,vn,vw,vu,vr,vh,.slice ok (es.length) ck,.slice o7 (s.bP.aJ.length+1) c7⟩,es,jB.o.put (i:=7) rfl ⟨124,4,.slice o7 (s.bP.aJ.length+1) c7,s.bP.aJ.length+1,gV s.bP.aJ++[.bool true,iv x,iv y,iv z]⟩ iZ.o.1 (fun m hm=>by rw[HM.o] at hm;exact dM.1 hm) iZ.o.2.1 iZ.o.2.2.1 (aI iZ.o.2.2.2 _) (by simp[iM,fQ,gV]) (jB.o.es)⟩⟩
end Go.Proofs.YthbpmepjmebolaaGreatDoor.Bk
end
section
namespace Go.Proofs.YthbpmepjmebolaaGreatDoor.Bk
open jC
def xq (n:Nat):Nat->aF
 |0=>[]
 |m+1=>xq (n/10) m++[D7 (n%10)]
theorem PQ (m:Nat): ∀n,(xq n m).length=m:=by
 induction m with
 |zero=>intro n;rfl
 |succ m ih=>intro n;simp[xq,ih]
def jR:Nat->aF->Nat
 |_,[]=>0
 |k,c::l=>k*c.toNat+jR (k+1) l
def uA (i:Nat) (line:aF):Nat:=(29*(i+1)+jR 2 line)%9949
theorem XV (i:Nat) (line:aF):uA i line<10^4:=by
 have:=Nat.mod_lt (29*(i+1)+jR 2 line) (show 9949>0 by omega)
 unfold uA
 omega
def nI (i:Nat) (line:aF):aF:=xq line.length 2++(58::(line++(58::(xq (uA i line) 4++[10]))))
theorem Ei (i:Nat) (line:aF):(nI i line).length=9+line.length:=by simp[nI,PQ];omega
def jP (i:Nat):List aF->aF
 |[]=>[]
 |l::ls=>nI i l++jP (i+1) ls
def Ih (ls:List aF):aF:=jP 0 ls
theorem Jq: ∀(ls:List aF) (i:Nat) (l:aF),jP i (ls++[l])=jP i ls++nI (i+ls.length) l:=by
 intro ls
 induction ls with
 |nil=>intro i l;simp[jP]
 |cons x ls ih=>intro i l;simp only[List.cons_append,jP,ih,nS,List.length_cons];rw[show i+1+ls.length=i+(ls.length+1) from by omega]
def Oc:List aF->Nat
 |[]=>0
 |l::ls=>9+l.length+Oc ls
theorem Nc: ∀(ls:List aF) (i:Nat),(jP i ls).length=Oc ls:=by
 intro ls
 induction ls with
 |nil=>intro i;rfl
 |cons l ls ih=>intro i;simp[jP,Oc,Ei,ih]
end Go.Proofs.YthbpmepjmebolaaGreatDoor.Bk
end
section
namespace Go.Proofs.YthbpmepjmebolaaGreatDoor
open Go.RowKit Go.RG Go.SL Go.Shelf jC Go.TB
theorem VG {l:aS} (hp: ∃d∈gy l,jG l [] d=true) (p:Int->dY->dY):(Ci p l (gy l)).length=l.field.aO.toNat:=by
 rcases La p l (gy l) (gy l).length (ai _) with h|h
 ·obtain⟨d,hd,hc⟩:=hp
  by_cases h0:0<l.field.aO.toNat
  ·rcases II p l (gy l) h0 (gy l).length (ai _) with⟨_,h2⟩|⟨h1,_⟩
   ·rw[List.take_length] at h2
    rw[h2 d hd] at hc;cases hc
   ·exact h1
  ·unfold Ci;rw[h];simp;omega
 ·exact h
end Go.Proofs.YthbpmepjmebolaaGreatDoor
end

/-
  Texts of this claim, packed by a program: YA YB YC YE YF DA DB DC DD DE DF DG.
-/
import Derived.WalkKit
import Derived.WalkLawsBesides
import Derived.WalkSpells
import Derived.Outline
import Derived.Handy
import Derived.KernelRfl
import Derived.Lib.Hide
import Derived.Lib.AtoiTie
import Derived.Lib.ItoaNum
import Derived.StringKeys
import Derived.Lib.SlicesS
import Derived.BigRegion
import Derived.Test.YtabpkkbiioihaaaGreatDoorPK12
set_option maxHeartbeats 8000000
set_option maxRecDepth 100000
set_option linter.all false
section
namespace Go.Proofs.YtabpkkbiioihaaaGreatDoor.Bk
open gZ Go.Proofs.YtabpkkbiioihaaaGreatDoor.xH
abbrev Bytes:=List UInt8
def aS:Bytes->List Bytes
 |[]=>[[]]
 |c::l=>if c=32 then[]::aS l else(c::(aS l).headD [])::(aS l).tail
theorem iP: ∀l,aS l≠[]:=by
 intro l
 cases l with
 |nil=>simp[aS]
 |cons c l=>unfold aS;split <;>simp
theorem yO: ∀(a:Bytes),(∀c∈a,c≠32)->aS a=[a]:=by
 intro a
 induction a with
 |nil=>intro _;rfl
 |cons c a ih=>
  intro h
  rw[aS,if_neg (h c (by simp)),ih (fun x hx=>h x (by simp[hx]))]
  rfl
def eH (c:UInt8):Bool:=decide (48<=c.toNat)&&decide (c.toNat<=57)
def kL (s:Bytes):Int:=s.foldl (fun n c=>10*n+((c.toNat:Int)-48)) 0
def um (s:Bytes):Bool:=decide (1<=s.length)&&decide (s.length<=4)&&(decide (s.headD 0≠48) ||decide (s.length=1))&&s.all eH
def jb (s:Bytes):Option Int:=if um s=true then some (kL s) else none
theorem Dx: ∀(s:Bytes) (n:Int),0<=n->s.all eH=true->n*10^s.length<=s.foldl (fun n c=>10*n+((c.toNat:Int)-48)) n/\s.foldl (fun n c=>10*n+((c.toNat:Int)-48)) n<(n+1)*10^s.length:=by
 intro s
 induction s with
 |nil=>intro n h _;simp;omega
 |cons c s ih=>
  intro n h hs
  rw[List.all_cons,Bool.and_eq_true] at hs
  have hd:=hs.1
  simp only[eH,Bool.and_eq_true,decide_eq_true_eq] at hd
  have hp:0<(10:Int)^s.length:=Int.pow_pos (by omega)
  have:=ih (10*n+((c.toNat:Int)-48)) (by omega) hs.2
  rw[List.foldl_cons,List.length_cons,Int.pow_succ]
  have e1:n*(10^s.length*10)=(10*n)*10^s.length:=by rw[Int.mul_comm (10^s.length) 10, <-Int.mul_assoc,Int.mul_comm n 10]
  have e2:(n+1)*(10^s.length*10)=(10*(n+1))*10^s.length:=by rw[Int.mul_comm (10^s.length) 10, <-Int.mul_assoc,Int.mul_comm (n+1) 10]
  rw[e1,e2]
  have h1:(10*n)*10^s.length<=(10*n+((c.toNat:Int)-48))*10^s.length:=Int.mul_le_mul_of_nonneg_right (by omega) (by omega)
  have h2:(10*n+((c.toNat:Int)-48)+1)*10^s.length<=(10*(n+1))*10^s.length:=Int.mul_le_mul_of_nonneg_right (by omega) (by omega)
  omega
theorem Eh {s:Bytes} {n:Int} (h:jb s=some n):0<=n/\n<=9999:=by
 unfold jb at h
 split at h
 ·rename_i hf
  obtain rfl:=Option.some.inj h
  simp only[um,Bool.and_eq_true,decide_eq_true_eq] at hf
  have h1:=Dx s 0 (by omega) hf.2
  have h2:(10:Int)^s.length<=10000:=by
   have h3:=hf.1.1.1
   have h4:=hf.1.1.2
   clear h1 hf
   generalize s.length=k at*
   rcases(show k=1∨k=2∨k=3∨k=4 by omega) with rfl|rfl|rfl|rfl <;>decide
  unfold kL
  omega
 ·cases h
inductive gB where
 |row|left|tally|ve|jy|rate|box|note|void|start|bg|turn|kz|vP|unread|heap|strong|kN|fill|vg|nY
 deriving DecidableEq
def Ff:List gB:=[.row,.left,.tally,.ve,.jy,.rate,.box,.note,.void,.start,.bg,.turn,.kz,.vP,.unread,.heap,.strong,.kN,.fill,.vg,.nY]
def gB.word:gB->Bytes
 | .row=>[114,111,119]
 | .left=>[108,101,102,116]
 | .tally=>[116,97,108,108,121]
 | .ve=>[119,97,115,104]
 | .jy=>[117,110,116,97,108,108,121]
 | .rate=>[114,97,116,101]
 | .box=>[98,111,120]
 | .note=>[110,111,116,101]
 | .void=>[118,111,105,100]
 | .start=>[115,116,97,114,116]
 | .bg=>[119,101,116]
 | .turn=>[116,117,114,110]
 | .kz=>[117,110,116,117,114,110]
 | .vP=>[105,114,111,110]
 | .unread=>[117,110,114,101,97,100]
 | .heap=>[104,101,97,112]
 | .strong=>[115,116,114,111,110,103]
 | .kN=>[99,97,115,107]
 | .fill=>[102,105,108,108]
 | .vg=>[116,114,121]
 | .nY=>[117,110,116,114,121]
def gB.many:gB->Nat
 | .row=>0
 | .jy| .rate| .void| .turn| .kz| .unread| .nY=>1
 | .left| .box| .start| .heap| .kN=>2
 | .ve| .note| .bg| .vP| .strong| .fill| .vg=>3
 | .tally=>5
def nN (w:Bytes):Option gB:=Ff.find? fun c=>c.word==w
theorem zY (c:gB):nN c.word=some c:=by cases c <;>decide
theorem zZ {w:Bytes} {c:gB} (h:nN w=some c):w=c.word:=by
 have:=List.find?_some h
 exact(beq_iff_eq.1 this).symm
theorem dE {w:Bytes} (h:nN w=none) (c:gB):w≠c.word:=by
 intro e
 rw[e,zY] at h
 cases h
def iU:List Bytes->Option (List Int)
 |[]=>some []
 |p::ps=>(jb p).bind fun n=>(iU ps).map (n:: ·)
theorem Cj: ∀{ps:List Bytes} {n:List Int},iU ps=some n->n.length=ps.length:=by
 intro ps
 induction ps with
 |nil=>intro n h;obtain rfl:=Option.some.inj h;rfl
 |cons p ps ih=>
  intro n h
  unfold iU at h
  cases hp:jb p with
  |none=>rw[hp] at h;cases h
  |some x=>
   cases hq:iU ps with
   |none=>rw[hp,hq] at h;cases h
   |some y=>
    rw[hp,hq] at h
    obtain rfl:=Option.some.inj h
    simp[ih hq]
theorem RI: ∀{ps:List Bytes} {n:List Int},iU ps=some n-> ∀x∈n,0<=x/\x<=9999:=by
 intro ps
 induction ps with
 |nil=>intro n h x hx;obtain rfl:=Option.some.inj h;cases hx
 |cons p ps ih=>
  intro n h x hx
  unfold iU at h
  cases hp:jb p with
  |none=>rw[hp] at h;cases h
  |some y=>
   cases hq:iU ps with
   |none=>rw[hp,hq] at h;cases h
   |some z=>
    rw[hp,hq] at h
    obtain rfl:=Option.some.inj h
    rcases List.mem_cons.1 hx with rfl|hx
    ·exact Eh hp
    ·exact ih hq x hx
def parse (line:Bytes):Option (gB×List Int):=
 (nN ((aS line).headD [])).bind fun c=>if(aS line).tail.length=c.many then(iU (aS line).tail).map fun n=>(c,n) else none
theorem nC {line:Bytes} {c:gB} {n:List Int} (h:parse line=some (c,n)):(aS line).headD []=c.word/\n.length=c.many/\(∀x∈n,0<=x/\x<=9999)/\iU (aS line).tail=some n:=by
 unfold parse at h
 cases hc:nN ((aS line).headD []) with
 |none=>rw[hc] at h;cases h
 |some d=>
  rw[hc,Option.bind_some] at h
  split at h
  ·rename_i hl
   cases hn:iU (aS line).tail with
   |none=>rw[hn] at h;cases h
   |some m=>
    rw[hn] at h
    obtain⟨rfl,rfl⟩:=Prod.mk.inj (Option.some.inj h)
    exact⟨zZ hc,by rw[Cj hn,hl],RI hn,rfl⟩
  ·cases h
structure gV where
 led:ax
 heap:bF
 bG:aQ
def bJ:gV:=
 {led:={field:={rows:=3,ai:=2,left:=(0,3),ae:=[]},rate:=10,box:=(0,2000),notes:=[]}
  heap:={last:=4,size:=10,aY:=50,die:=10,pI:=60,start:=(30,30),bg:=List.replicate 5 (6,6),turns:=[],readings:=[]}
  bG:={heaps:=[(40,40)],aC:=[],au:=[]}}
def wW (a b most:Int):Bool:=decide (a<=b)&&decide (b<=most)
def En (a b most wide:Int):Bool:=decide (a<=b)&&decide (b<=most)&&decide (b<=a+wide)
def fP (last:Int) (p:Int->Bool):List Int:=((List.range (last+1).toNat).map fun(k:Nat)=>(k:Int)).filter p
def jw (s:gV) (l:List yB):gV:={s with led:={s.led with field:={s.led.field with ae:=l}}}
def jl (s:gV) (l:List (Int×bK)):gV:={s with led:={s.led with notes:=l}}
def eU (s:gV) (h:bF):gV:={s with heap:=h}
def dI (s:gV) (c:aQ):gV:={s with bG:=c}
def act (s:gV):gB->List Int->Int×gV
 | .row,_=>if 5<=s.led.field.rows then(3,s) else(0,{s with led:={s.led with field:={s.led.field with rows:=s.led.field.rows+1}}})
 | .left,n=>if wW (n.getD 0 0) (n.getD 1 0) s.led.field.rows=false then(2,s)
    else(0,{s with led:={s.led with field:={s.led.field with left:=(n.getD 0 0,n.getD 1 0)}}})
 | .tally,n=>if s.led.field.ai<=n.getD 0 0 then(7,s) else if s.led.field.rows<=n.getD 1 0∨s.led.field.rows<=n.getD 2 0 then(7,s)
    else if n.getD 2 0<n.getD 1 0 then(2,s) else if wW (n.getD 3 0) (n.getD 4 0) s.led.field.rows=false then(2,s)
    else if 5<=s.led.field.ae.length then(3,s)
    else(0,jw s (s.led.field.ae++[(n.getD 0 0,n.getD 1 0,n.getD 2 0,(n.getD 3 0,n.getD 4 0))]))
 | .ve,n=>if(s.led.field.ae.length:Int)<=n.getD 0 0 then(7,s) else if wW (n.getD 1 0) (n.getD 2 0) s.led.field.rows=false then(2,s)
    else(0,jw s (s.led.field.ae.set (n.getD 0 0).toNat
     (let t:=s.led.field.ae.getD (n.getD 0 0).toNat (0,0,0,(0,0));(t.1,t.2.1,t.2.2.1,(n.getD 1 0,n.getD 2 0)))))
 | .jy,n=>if(s.led.field.ae.length:Int)<=n.getD 0 0 then(7,s) else(0,jw s (s.led.field.ae.eraseIdx (n.getD 0 0).toNat))
 | .rate,n=>if n.getD 0 0=0∨50<n.getD 0 0 then(2,s) else(0,{s with led:={s.led with rate:=n.getD 0 0}})
 | .box,n=>if wW (n.getD 0 0) (n.getD 1 0) 2000=false then(2,s) else(0,{s with led:={s.led with box:=(n.getD 0 0,n.getD 1 0)}})
 | .note,n=>if s.led.field.ai<=n.getD 0 0 then(7,s) else if wW (n.getD 1 0) (n.getD 2 0) 2000=false then(2,s)
    else if 5<=s.led.notes.length then(3,s) else(0,jl s (s.led.notes++[(n.getD 0 0,(n.getD 1 0,n.getD 2 0))]))
 | .void,n=>if(s.led.notes.length:Int)<=n.getD 0 0 then(7,s) else(0,jl s (s.led.notes.eraseIdx (n.getD 0 0).toNat))
 | .start,n=>if En (n.getD 0 0) (n.getD 1 0) 500 2=false then(2,s) else(0,eU s {s.heap with start:=(n.getD 0 0,n.getD 1 0)})
 | .bg,n=>if s.heap.last<n.getD 0 0 then(7,s) else if En (n.getD 1 0) (n.getD 2 0) 20 2=false then(2,s)
    else(0,eU s {s.heap with bg:=s.heap.bg.set (n.getD 0 0).toNat (n.getD 1 0,n.getD 2 0)})
 | .turn,n=>if s.heap.last<n.getD 0 0 then(7,s) else if s.heap.turns.contains (n.getD 0 0) then(6,s)
    else(0,eU s {s.heap with turns:=fP s.heap.last fun i=>i==n.getD 0 0 ||s.heap.turns.contains i})
 | .kz,n=>if s.heap.turns.contains (n.getD 0 0)=false then(7,s)
    else(0,eU s {s.heap with turns:=fP s.heap.last fun i=>i !=n.getD 0 0&&s.heap.turns.contains i})
 | .vP,n=>if s.heap.last<n.getD 0 0 then(7,s) else if 1000<n.getD 1 0∨50<n.getD 2 0 then(2,s)
    else if 5<=s.heap.readings.length then(3,s) else(0,eU s {s.heap with readings:=s.heap.readings++[(n.getD 0 0,n.getD 1 0,n.getD 2 0)]})
 | .unread,n=>if(s.heap.readings.length:Int)<=n.getD 0 0 then(7,s) else(0,eU s {s.heap with readings:=s.heap.readings.eraseIdx (n.getD 0 0).toNat})
 | .heap,n=>if En (n.getD 0 0) (n.getD 1 0) 100 9=false then(2,s) else if 3<=s.bG.heaps.length then(3,s)
    else(0,dI s {s.bG with heaps:=s.bG.heaps++[(n.getD 0 0,n.getD 1 0)],aC:=s.bG.aC.map (· ++[0])})
 | .strong,n=>if(s.bG.heaps.length:Int)<=n.getD 0 0 then(7,s) else if En (n.getD 1 0) (n.getD 2 0) 100 9=false then(2,s)
    else(0,dI s {s.bG with heaps:=s.bG.heaps.set (n.getD 0 0).toNat (n.getD 1 0,n.getD 2 0)})
 | .kN,n=>if(s.bG.heaps.length:Int)<=n.getD 0 0 then(7,s) else if n.getD 1 0=0∨30<n.getD 1 0 then(2,s)
    else if 3<=s.bG.aC.length then(3,s)
    else(0,dI s {s.bG with aC:=s.bG.aC++[(List.replicate s.bG.heaps.length 0).set (n.getD 0 0).toNat (n.getD 1 0)]})
 | .fill,n=>if(s.bG.aC.length:Int)<=n.getD 0 0 then(7,s) else if(s.bG.heaps.length:Int)<=n.getD 1 0 then(7,s) else if 30<n.getD 2 0 then(2,s)
    else if((s.bG.aC.getD (n.getD 0 0).toNat []).set (n.getD 1 0).toNat (n.getD 2 0)).any (fun x=>decide (0<x))=false then(8,s)
    else(0,dI s {s.bG with aC:=s.bG.aC.set (n.getD 0 0).toNat ((s.bG.aC.getD (n.getD 0 0).toNat []).set (n.getD 1 0).toNat (n.getD 2 0))})
 | .vg,n=>if(s.bG.aC.length:Int)<=n.getD 0 0 then(7,s) else if En (n.getD 1 0) (n.getD 2 0) 100 100=false then(2,s)
    else if 5<=s.bG.au.length then(3,s) else(0,dI s {s.bG with au:=s.bG.au++[(true,n.getD 0 0,(n.getD 1 0,n.getD 2 0))]})
 | .nY,n=>if(s.bG.au.length:Int)<=n.getD 0 0 then(7,s) else(0,dI s {s.bG with au:=s.bG.au.eraseIdx (n.getD 0 0).toNat})
structure Good (s:gV):Prop where
 rows:3<=s.led.field.rows/\s.led.field.rows<=5
 ai:s.led.field.ai=2
 left:0<=s.led.field.left.1/\s.led.field.left.1<=s.led.field.left.2/\s.led.field.left.2<=s.led.field.rows
 yz:s.led.field.ae.length<=5
 pM: ∀t∈s.led.field.ae,(0<=t.1/\t.1<2)/\(0<=t.2.1/\t.2.1<=t.2.2.1/\t.2.2.1<s.led.field.rows)/\(0<=t.2.2.2.1/\t.2.2.2.1<=t.2.2.2.2/\t.2.2.2.2<=s.led.field.rows)
 rate:1<=s.led.rate/\s.led.rate<=50
 box:0<=s.led.box.1/\s.led.box.1<=s.led.box.2/\s.led.box.2<=2000
 notes:s.led.notes.length<=5
 note: ∀t∈s.led.notes,(0<=t.1/\t.1<2)/\(0<=t.2.1/\t.2.1<=t.2.2/\t.2.2<=2000)
 heap:s.heap.last=4/\s.heap.size=10/\s.heap.aY=50/\s.heap.die=10/\s.heap.pI=60
 start:0<=s.heap.start.1/\s.heap.start.1<=s.heap.start.2/\s.heap.start.2<=500/\s.heap.start.2<=s.heap.start.1+2
 QL:s.heap.bg.length=5
 bg: ∀r∈s.heap.bg,0<=r.1/\r.1<=r.2/\r.2<=20/\r.2<=r.1+2
 turns: ∃p,s.heap.turns=fP 4 p
 reads:s.heap.readings.length<=5
 read: ∀x∈s.heap.readings,(0<=x.1/\x.1<=4)/\(0<=x.2.1/\x.2.1<=1000)/\(0<=x.2.2/\x.2.2<=50)
 LK:1<=s.bG.heaps.length/\s.bG.heaps.length<=3
 bG: ∀r∈s.bG.heaps,0<=r.1/\r.1<=r.2/\r.2<=100/\r.2<=r.1+9
 aC:s.bG.aC.length<=3
 kN: ∀l∈s.bG.aC,l.length=s.bG.heaps.length/\(∀x∈l,0<=x/\x<=30)/\0<jB l
 au:s.bG.au.length<=5
 trial: ∀t∈s.bG.au,t.1=true/\(0<=t.2.1/\t.2.1<s.bG.aC.length)/\(0<=t.2.2.1/\t.2.2.1<=t.2.2.2/\t.2.2.2<=100)
theorem Ak:Good bJ where
 rows:=by decide
 ai:=rfl
 left:=by decide
 yz:=by decide
 pM:=fun _ h=>by cases h
 rate:=by decide
 box:=by decide
 notes:=by decide
 note:=fun _ h=>by cases h
 heap:=by decide
 start:=by decide
 QL:=rfl
 bg:=fun r h=>by obtain rfl:=List.eq_of_mem_replicate h;decide
 turns:=⟨fun _=>false,by decide⟩
 reads:=by decide
 read:=fun _ h=>by cases h
 LK:=by decide
 bG:=fun r h=>by obtain rfl:=List.mem_singleton.1 h;decide
 aC:=by decide
 kN:=fun _ h=>by cases h
 au:=by decide
 trial:=fun _ h=>by cases h
theorem yJ {n:List Int} (h: ∀x∈n,0<=x/\x<=9999) (i:Nat):0<=n.getD i 0/\n.getD i 0<=9999:=by
 by_cases hi:i<n.length
 ·rw[List.getD_eq_getElem?_getD,List.getElem?_eq_getElem hi,Option.getD_some];exact h _ (List.getElem_mem hi)
 ·rw[List.getD_eq_getElem?_getD,List.getElem?_eq_none (by omega)];exact⟨by decide,by decide⟩
theorem oZ {α:Type} {l:List α} {i:Nat} {x y:α} (h:y∈l.set i x):y=x∨y∈l:=by
 rcases List.mem_or_eq_of_mem_set h with h|h
 ·exact .inr h
 ·exact .inl h
theorem Vo {l:List Int} (h: ∀x∈l,0<=x/\x<=30):0<=jB l:=(yF (by omega) h).1
theorem FW {l:List Int} (h: ∀x∈l,0<=x/\x<=30):0<jB l↔l.any (fun x=>decide (0<x))=true:=by
 induction l with
 |nil=>simp[jB]
 |cons x l ih=>
  have h1:=h x (by simp)
  have h2:=Vo (l:=l) (fun y hy=>h y (by simp[hy]))
  have h3:=ih (fun y hy=>h y (by simp[hy]))
  rw[List.any_cons,Bool.or_eq_true, <-h3,decide_eq_true_eq]
  simp only[jB]
  omega
theorem JJ (l:List Int):jB (l++[0])=jB l:=by rw[FX];simp[jB]
theorem qP {a b m:Int}:wW a b m=true↔a<=b/\b<=m:=by simp[wW]
theorem qY {a b m w:Int}:En a b m w=true↔a<=b/\b<=m/\b<=a+w:=by simp[En,and_assoc]
theorem mem_erase {α:Type} {l:List α} {i:Nat} {x:α} (h:x∈l.eraseIdx i):x∈l:=List.mem_of_mem_eraseIdx h
theorem tq {α:Type} (l:List α) (i:Nat):(l.eraseIdx i).length<=l.length:=List.length_eraseIdx_le l i
theorem UB {s:gV} (hG:Good s) (c:gB) {n:List Int} (hn: ∀x∈n,0<=x/\x<=9999) (h0:(act s c n).1=0):Good (act s c n).2:=by
 have n0:=yJ hn 0
 have n1:=yJ hn 1
 have n2:=yJ hn 2
 have n3:=yJ hn 3
 cases c <;>simp only[act] at h0⊢
 case row=>
  split at h0 <;>first|omega|skip
  rename_i h1
  rw[if_neg h1]
  have:=hG.rows;have:=hG.left
  exact {hG with rows:=by simp only;omega,left:=by simp only;omega,pM:=fun t ht=>by have:=hG.pM t ht;simp only at*;omega}
 case left=>
  split at h0 <;>first|omega|skip
  rename_i h1
  rw[if_neg h1]
  rw[Bool.not_eq_false,qP] at h1
  exact {hG with left:=by simp only;omega}
 case tally=>
  repeat' (split at h0;· omega)
  rename_i h1 h2 h3 h4 h5
  rw[if_neg h1,if_neg h2,if_neg h3,if_neg h4,if_neg h5]
  rw[Bool.not_eq_false,qP] at h4
  have hw:=hG.ai
  refine {hG with yz:=by simp[jw];omega,pM:=fun t ht=>?_}
  rcases List.mem_append.1 ht with ht|ht
  ·exact hG.pM t ht
  ·obtain rfl:=List.mem_singleton.1 ht
   simp only[jw];omega
 case ve=>
  repeat' (split at h0;· omega)
  rename_i h1 h2
  rw[if_neg h1,if_neg h2]
  rw[Bool.not_eq_false,qP] at h2
  refine {hG with yz:=by simp[jw];exact hG.yz,pM:=fun t ht=>?_}
  rcases oZ ht with rfl|ht
  ·have hk:(n.getD 0 0).toNat<s.led.field.ae.length:=by omega
   have:=hG.pM _ (List.getElem_mem hk)
   rw[List.getD_eq_getElem?_getD (l:=s.led.field.ae),List.getElem?_eq_getElem hk,Option.getD_some]
   simp only[jw];omega
  ·exact hG.pM t ht
 case jy=>
  repeat' (split at h0;· omega)
  rename_i h1
  rw[if_neg h1]
  exact {hG with yz:=Nat.le_trans (tq _ _) hG.yz,pM:=fun t ht=>hG.pM t (mem_erase ht)}
 case rate=>
  repeat' (split at h0;· omega)
  rename_i h1
  rw[if_neg h1]
  exact {hG with rate:=by simp only;omega}
 case box=>
  repeat' (split at h0;· omega)
  rename_i h1
  rw[if_neg h1]
  rw[Bool.not_eq_false,qP] at h1
  exact {hG with box:=by simp only;omega}
 case note=>
  repeat' (split at h0;· omega)
  rename_i h1 h2 h3
  rw[if_neg h1,if_neg h2,if_neg h3]
  rw[Bool.not_eq_false,qP] at h2
  have hw:=hG.ai
  refine {hG with notes:=by simp[jl];omega,note:=fun t ht=>?_}
  rcases List.mem_append.1 ht with ht|ht
  ·exact hG.note t ht
  ·obtain rfl:=List.mem_singleton.1 ht
   simp only;omega
 case void=>
  repeat' (split at h0;· omega)
  rename_i h1
  rw[if_neg h1]
  exact {hG with notes:=Nat.le_trans (tq _ _) hG.notes,note:=fun t ht=>hG.note t (mem_erase ht)}
 case start=>
  repeat' (split at h0;· omega)
  rename_i h1
  rw[if_neg h1]
  rw[Bool.not_eq_false,qY] at h1
  exact {hG with start:=by simp only[eU];omega}
 case bg=>
  repeat' (split at h0;· omega)
  rename_i h1 h2
  rw[if_neg h1,if_neg h2]
  rw[Bool.not_eq_false,qY] at h2
  refine {hG with QL:=by simp[eU];exact hG.QL,bg:=fun r hr=>?_}
  rcases oZ hr with rfl|hr
  ·simp only;omega
  ·exact hG.bg r hr
 case turn=>
  repeat' (split at h0;· omega)
  rename_i h1 h2
  rw[if_neg h1,if_neg h2]
  exact {hG with turns:=⟨_,by simp only[eU,hG.heap.1];rfl⟩}
 case kz=>
  repeat' (split at h0;· omega)
  rename_i h1
  rw[if_neg h1]
  exact {hG with turns:=⟨_,by simp only[eU,hG.heap.1];rfl⟩}
 case vP=>
  repeat' (split at h0;· omega)
  rename_i h1 h2 h3
  rw[if_neg h1,if_neg h2,if_neg h3]
  have hl:=hG.heap.1
  refine {hG with reads:=by simp[eU];omega,read:=fun t ht=>?_}
  rcases List.mem_append.1 ht with ht|ht
  ·exact hG.read t ht
  ·obtain rfl:=List.mem_singleton.1 ht
   simp only;omega
 case unread=>
  repeat' (split at h0;· omega)
  rename_i h1
  rw[if_neg h1]
  exact {hG with reads:=Nat.le_trans (tq _ _) hG.reads,read:=fun t ht=>hG.read t (mem_erase ht)}
 case heap=>
  repeat' (split at h0;· omega)
  rename_i h1 h2
  rw[if_neg h1,if_neg h2]
  rw[Bool.not_eq_false,qY] at h1
  refine {hG with LK:=by simp[dI];omega,bG:=fun r hr=>?_,aC:=by simp[dI];exact hG.aC,kN:=fun l hl=>?_,trial:=fun t ht=>?_}
  ·rcases List.mem_append.1 hr with hr|hr
   ·exact hG.bG r hr
   ·obtain rfl:=List.mem_singleton.1 hr
    simp only;omega
  ·obtain⟨m,hm,rfl⟩:=List.mem_map.1 hl
   have:=hG.kN m hm
   refine⟨by simp[dI,this.1],fun x hx=>?_,by rw[JJ];exact this.2.2⟩
   rcases List.mem_append.1 hx with hx|hx
   ·exact this.2.1 x hx
   ·obtain rfl:=List.mem_singleton.1 hx;decide
  ·have:=hG.trial t ht
   simp only[dI,List.length_map]
   exact this
 case strong=>
  repeat' (split at h0;· omega)
  rename_i h1 h2
  rw[if_neg h1,if_neg h2]
  rw[Bool.not_eq_false,qY] at h2
  refine {hG with LK:=by simp[dI];exact hG.LK,bG:=fun r hr=>?_,kN:=fun l hl=>by simp[dI];exact hG.kN l hl}
  rcases oZ hr with rfl|hr
  ·simp only;omega
  ·exact hG.bG r hr
 case kN=>
  repeat' (split at h0;· omega)
  rename_i h1 h2 h3
  rw[if_neg h1,if_neg h2,if_neg h3]
  have hk:(n.getD 0 0).toNat<s.bG.heaps.length:=by omega
  have hx: ∀x∈(List.replicate s.bG.heaps.length (0:Int)).set (n.getD 0 0).toNat (n.getD 1 0),0<=x/\x<=30:=fun x hx=>by
   rcases oZ hx with rfl|hx
   ·omega
   ·obtain rfl:=List.eq_of_mem_replicate hx;decide
  refine {hG with aC:=by simp[dI];omega,kN:=fun l hl=>?_,trial:=fun t ht=>?_}
  ·rcases List.mem_append.1 hl with hl|hl
   ·exact hG.kN l hl
   ·obtain rfl:=List.mem_singleton.1 hl
    refine⟨by simp[dI],hx,(FW hx).2 ?_⟩
    rw[List.any_eq_true]
    exact⟨n.getD 1 0,List.mem_iff_getElem.2 ⟨(n.getD 0 0).toNat,by simpa using hk,List.getElem_set_self _⟩,decide_eq_true (by omega)⟩
  ·have:=hG.trial t ht
   simp only[dI,List.length_append,List.length_singleton]
   exact⟨this.1,by omega,this.2.2⟩
 case fill=>
  repeat' (split at h0;· omega)
  rename_i h1 h2 h3 h4
  rw[if_neg h1,if_neg h2,if_neg h3,if_neg h4]
  have hk:(n.getD 0 0).toNat<s.bG.aC.length:=by omega
  have hb:=hG.kN _ (List.getElem_mem hk)
  rw[List.getD_eq_getElem?_getD (l:=s.bG.aC),List.getElem?_eq_getElem hk,Option.getD_some] at h4⊢
  have hx: ∀x∈s.bG.aC[(n.getD 0 0).toNat].set (n.getD 1 0).toNat (n.getD 2 0),0<=x/\x<=30:=fun x hx=>by
   rcases oZ hx with rfl|hx
   ·omega
   ·exact hb.2.1 x hx
  refine {hG with aC:=by simp[dI];exact hG.aC,kN:=fun l hl=>?_,trial:=fun t ht=>?_}
  ·rcases oZ hl with rfl|hl
   ·exact⟨by rw[List.length_set];exact hb.1,hx,(FW hx).2 (by simpa using h4)⟩
   ·exact hG.kN l hl
  ·have:=hG.trial t ht
   simp only[dI,List.length_set]
   exact this
 case vg=>
  repeat' (split at h0;· omega)
  rename_i h1 h2 h3
  rw[if_neg h1,if_neg h2,if_neg h3]
  rw[Bool.not_eq_false,qY] at h2
  refine {hG with au:=by simp[dI];omega,trial:=fun t ht=>?_}
  rcases List.mem_append.1 ht with ht|ht
  ·exact hG.trial t ht
  ·obtain rfl:=List.mem_singleton.1 ht
   exact⟨rfl,by simp only[dI];omega,by simp only;omega⟩
 case nY=>
  repeat' (split at h0;· omega)
  rename_i h1
  rw[if_neg h1]
  exact {hG with au:=Nat.le_trans (tq _ _) hG.au,trial:=fun t ht=>hG.trial t (mem_erase ht)}
end Go.Proofs.YtabpkkbiioihaaaGreatDoor.Bk
end
section
namespace Go.Proofs.YtabpkkbiioihaaaGreatDoor.Bk
open gZ Go.Lib
abbrev Ip (k:Nat):UInt8:=UInt8.ofNat (48+k)
theorem mi {k:Nat} (h:k<10):(Ip k).toNat=48+k:=by simp[Ip];omega
theorem Pz {k:Nat} (h:k<10):eH (Ip k)=true:=by
 simp only[eH,mi h,Bool.and_eq_true,decide_eq_true_eq];omega
theorem Zg {k:Nat} (h:k<10) (h1:1<=k):Ip k≠48:=fun e=>by
 have:=congrArg UInt8.toNat e
 rw[mi h] at this
 have h2:(48:UInt8).toNat=48:=by decide
 omega
theorem Ua {c:UInt8} (h:eH c=true): ∃k,k<10/\c=Ip k:=by
 simp only[eH,Bool.and_eq_true,decide_eq_true_eq] at h
 refine⟨c.toNat-48,by omega,?_⟩
 apply UInt8.toNat_inj.1
 rw[mi (by omega)]
 omega
theorem PD {k:Nat} (h:k<10):Ip k≠32:=fun e=>by
 have:=congrArg UInt8.toNat e
 rw[mi h] at this
 have h2:(32:UInt8).toNat=32:=by decide
 omega
theorem jh {u:Nat} (h:u<10):decDigits u=[Ip u]:=by rw[decDigits,dif_pos h]
theorem rQ {u:Nat} (h: ¬u<10):decDigits u=decDigits (u/10)++[Ip (u%10)]:=by rw[decDigits,dif_neg h]
theorem Iw: ∀u, ∀c∈decDigits u, ∃k,k<10/\c=Ip k:=by
 intro u
 induction u using Nat.strongRecOn with
 |_ u ih=>
  intro c hc
  by_cases h:u<10
  ·rw[jh h] at hc
   obtain rfl:=List.mem_singleton.1 hc
   exact⟨u,h,rfl⟩
  ·rw[rQ h] at hc
   rcases List.mem_append.1 hc with hc|hc
   ·exact ih _ (by omega) c hc
   ·obtain rfl:=List.mem_singleton.1 hc
    exact⟨u%10,by omega,rfl⟩
theorem Iu (u:Nat): ∀c∈decDigits u,c≠32:=fun c hc=>by
 obtain⟨k,hk,rfl⟩:=Iw u c hc
 exact PD hk
theorem Ug (u:Nat):1<=(decDigits u).length:=by
 by_cases h:u<10
 ·rw[jh h];exact Nat.le_refl _
 ·rw[rQ h];simp
theorem sF (s:Bytes) (c:UInt8):kL (s++[c])=10*kL s+((c.toNat:Int)-48):=by unfold kL;rw[List.foldl_append];rfl
theorem Ve (u:Nat):kL (decDigits u)=u:=by
 induction u using Nat.strongRecOn with
 |_ u ih=>
  by_cases h:u<10
  ·rw[jh h]
   show 10*(0:Int)+(((Ip u).toNat:Int)-48)=u
   rw[mi h];omega
  ·rw[rQ h,sF,ih _ (by omega),mi (by omega)]
   omega
theorem Ll: ∀(k u:Nat),u<10^(k+1)->(decDigits u).length<=k+1:=by
 intro k
 induction k with
 |zero=>intro u h;rw[jh (by omega)];exact Nat.le_refl _
 |succ k ih=>
  intro u h
  by_cases hu:u<10
  ·rw[jh hu];simp
  ·rw[rQ hu,List.length_append]
   have:=ih (u/10) (by rw[Nat.pow_succ] at h;omega)
   simp only[List.length_singleton]
   omega
theorem acb (u:Nat):u<10^(decDigits u).length:=by
 induction u using Nat.strongRecOn with
 |_ u ih=>
  by_cases h:u<10
  ·rw[jh h];simpa using h
  ·rw[rQ h,List.length_append,List.length_singleton,Nat.pow_succ]
   have:=ih (u/10) (by omega)
   omega
theorem Wv {u:Nat} (h1:1<=u):(decDigits u).headD 0≠48:=by
 induction u using Nat.strongRecOn with
 |_ u ih=>
  by_cases h:u<10
  ·rw[jh h];exact Zg h h1
  ·rw[rQ h]
   have h2:=ih (u/10) (by omega) (by omega)
   have h3:=Ug (u/10)
   cases hd:decDigits (u/10) with
   |nil=>rw[hd] at h3;simp at h3
   |cons a l=>rw[hd] at h2;exact h2
theorem MS {u:Nat} (h:u<10000):jb (decDigits u)=some (u:Int):=by
 have h1:=Ug u
 have h2:=Ll 3 u (by simpa using h)
 have h3:(decDigits u).all eH=true:=by
  rw[List.all_eq_true]
  intro c hc
  obtain⟨k,hk,rfl⟩:=Iw u c hc
  exact Pz hk
 unfold jb
 rw[if_pos,Ve]
 unfold um
 rw[h3,decide_eq_true h1,decide_eq_true h2]
 by_cases hu:u=0
 ·subst hu;rw[jh (by omega)];decide
 ·rw[decide_eq_true (Wv (u:=u) (by omega))];rfl
theorem Wu: ∀(k:Nat) (s:Bytes),s.length=k+1->s.all eH=true->(s.headD 0≠48∨s.length=1)->decDigits (kL s).toNat=s:=by
 intro k
 induction k with
 |zero=>
  intro s hl hd _
  obtain⟨c,rfl⟩:=List.length_eq_one_iff.1 hl
  have hc:eH c=true:=by simpa using hd
  obtain⟨j,hj,rfl⟩:=Ua hc
  show decDigits (10*(0:Int)+(((Ip j).toNat:Int)-48)).toNat=_
  rw[mi hj,show(10*(0:Int)+(((48+j:Nat):Int)-48)).toNat=j from by omega,jh hj]
 |succ k ih=>
  intro s hl hd hh
  obtain⟨t,c,rfl⟩: ∃t c,s=t++[c]:=by
   rcases List.eq_nil_or_concat s with rfl|⟨t,c,rfl⟩
   ·simp at hl
   ·exact⟨t,c,by simp⟩
  have hl':t.length=k+1:=by simpa using hl
  rw[List.all_append,Bool.and_eq_true] at hd
  have hc:eH c=true:=by simpa using hd.2
  obtain⟨j,hj,rfl⟩:=Ua hc
  have hne:t.headD 0≠48:=by
   rcases hh with hh|hh
   ·cases t with
    |nil=>simp at hl'
    |cons a t=>exact hh
   ·rw[hl] at hh;omega
  have h1:=ih t hl' hd.1 (.inl hne)
  have hb:=Dx t 0 (by omega) hd.1
  have hpos:1<=kL t:=by
   have hnn:0<=kL t:=by unfold kL;omega
   by_cases hz:kL t=0
   ·rw[hz] at h1
    have h48:decDigits (0:Int).toNat=[48]:=by rw[show(0:Int).toNat=0 from rfl,jh (by omega)];rfl
    rw[h48] at h1
    rw[<-h1] at hne
    exact absurd rfl hne
   ·omega
  rw[sF,mi hj,rQ (by omega)]
  rw[show(10*kL t+(((48+j:Nat):Int)-48)).toNat/10=(kL t).toNat from by omega,show(10*kL t+(((48+j:Nat):Int)-48)).toNat%10=j from by omega,h1]
theorem yG {s:Bytes} {v:Int} (h:jb s=some v):s=decDigits v.toNat/\s.length<=4:=by
 unfold jb at h
 split at h
 ·rename_i hf
  obtain rfl:=Option.some.inj h
  simp only[um,Bool.and_eq_true,Bool.or_eq_true,decide_eq_true_eq] at hf
  obtain⟨⟨⟨h1,h2⟩,h3⟩,h4⟩:=hf
  exact⟨(Wu (s.length-1) s (by omega) h4 h3).symm,h2⟩
 ·cases h
theorem Il {c:UInt8} (h:eH c=true):digitVal c=some (c.toNat-48):=by
 simp only[eH,Bool.and_eq_true,decide_eq_true_eq] at h
 unfold digitVal
 rw[if_pos h]
theorem Lj: ∀(s:Bytes) (acc:Nat),s.all eH=true-> ∃m:Nat,decFrom acc s=some m/\(m:Int)=s.foldl (fun n c=>10*n+((c.toNat:Int)-48)) (acc:Int):=by
 intro s
 induction s with
 |nil=>intro acc _;exact⟨acc,rfl,rfl⟩
 |cons c s ih=>
  intro acc h
  rw[List.all_cons,Bool.and_eq_true] at h
  obtain⟨m,h1,h2⟩:=ih (acc*10+(c.toNat-48)) h.2
  have hd:=h.1
  simp only[eH,Bool.and_eq_true,decide_eq_true_eq] at hd
  refine⟨m,by rw[decFrom,Il h.1];exact h1,?_⟩
  rw[h2,List.foldl_cons]
  congr 1
  omega
theorem yt {s:Bytes} {v:Int} (h:jb s=some v):atoi s=some v:=by
 unfold jb at h
 split at h
 ·rename_i hf
  obtain rfl:=Option.some.inj h
  simp only[um,Bool.and_eq_true,Bool.or_eq_true,decide_eq_true_eq] at hf
  obtain⟨⟨⟨h1,h2⟩,h3⟩,h4⟩:=hf
  cases s with
  |nil=>simp at h1
  |cons c s=>
   have hd:=h4
   rw[List.all_cons,Bool.and_eq_true] at hd
   have hc:=hd.1
   simp only[eH,Bool.and_eq_true,decide_eq_true_eq] at hc
   have n45:(c==45)=false:=by
    rw[beq_eq_false_iff_ne];rintro rfl;revert hc;decide
   have n43:(c==43)=false:=by
    rw[beq_eq_false_iff_ne];rintro rfl;revert hc;decide
   obtain⟨m,e1,e2⟩:=Lj (c::s) 0 h4
   have e3:atoi (c::s)=(decNat (c::s)).map fun(m:Nat)=>(m:Int):=by
    simp only[atoi,n45,n43,Bool.false_eq_true,if_false]
   rw[e3]
   unfold decNat
   rw[if_neg (by simp),e1]
   exact congrArg some e2
 ·cases h
theorem Gw {s:Bytes} {v:Int} (h0:0<=v) (hl:s.length<=4) (he:itoa v=s):jb s=some v:=by
 unfold itoa at he
 rw[if_neg (by omega)] at he
 have h1:=acb v.toNat
 rw[he] at h1
 have h2:v.toNat<10000:=Nat.lt_of_lt_of_le h1 (by
  have:=Nat.pow_le_pow_right (show 0<10 by omega) hl
  simpa using this)
 have:=MS h2
 rw[he] at this
 rw[this]
 congr 1
 omega
theorem SB {s:Bytes} {v:Int} (h:jb s=some v):itoa v=s:=by
 unfold itoa
 have:=(Eh h).1
 rw[if_neg (by omega)]
 exact(yG h).1.symm
end Go.Proofs.YtabpkkbiioihaaaGreatDoor.Bk
end
section
namespace Go.Proofs.YtabpkkbiioihaaaGreatDoor.Bk
open gZ Go.Lib Go.Proofs.YtabpkkbiioihaaaGreatDoor.xH
section
variable (st : gV → Int)
def oK (s:gV) (line:Bytes):gV×Int:=
 match parse line with
 |none=>(s,4)
 |some (c,n)=>if(act s c n).1≠0 then(s,(act s c n).1) else if st (act s c n).2≠0 then(s,st (act s c n).2) else((act s c n).2,0)
def dH:gV->List Bytes->gV×List Int
 |s,[]=>(s,[])
 |s,l::ls=>((dH (oK st s l).1 ls).1,(oK st s l).2::(dH (oK st s l).1 ls).2)
variable {st}
theorem wC {s:gV} {line:Bytes} (h:parse line=none):oK st s line=(s,4):=by unfold oK;rw[h]
theorem tC {s:gV} {line:Bytes} {c:gB} {n:List Int} (h:parse line=some (c,n)):
 oK st s line=if(act s c n).1≠0 then(s,(act s c n).1) else if st (act s c n).2≠0 then(s,st (act s c n).2) else((act s c n).2,0):=by unfold oK;rw[h]
theorem XD {s:gV} {line:Bytes} (h:(oK st s line).2=0): ∃c n,parse line=some (c,n)/\(act s c n).1=0/\st (act s c n).2=0/\oK st s line=((act s c n).2,0):=by
 cases hp:parse line with
 |none=>rw[wC hp] at h;cases h
 |some x=>
  obtain⟨c,n⟩:=x
  rw[tC hp] at h⊢
  split at h
  ·rename_i h1;exact absurd h h1
  ·rename_i h1
   split at h
   ·rename_i h2;exact absurd h h2
   ·rename_i h2
    rw[if_neg h1,if_neg h2]
    exact⟨c,n,rfl,by simpa using h1,by simpa using h2,rfl⟩
theorem XE {s:gV} {line:Bytes} (h:(oK st s line).2≠0):(oK st s line).1=s:=by
 cases hp:parse line with
 |none=>rw[wC hp]
 |some x=>
  obtain⟨c,n⟩:=x
  rw[tC hp] at h⊢
  split
  ·rfl
  ·rename_i h1
   split
   ·rfl
   ·rename_i h2
    rw[if_neg h1,if_neg h2] at h
    exact absurd rfl h
theorem Wp {s:gV} (hG:Good s) (line:Bytes):Good (oK st s line).1:=by
 by_cases h:(oK st s line).2=0
 ·obtain⟨c,n,h1,h2,_,h4⟩:=XD h
  rw[h4]
  exact UB hG c (nC h1).2.2.1 h2
 ·rw[XE h];exact hG
theorem Px {s:gV} (hs:st s=0) (line:Bytes):st (oK st s line).1=0:=by
 by_cases h:(oK st s line).2=0
 ·obtain⟨c,n,_,_,h3,h4⟩:=XD h
  rw[h4];exact h3
 ·rw[XE h];exact hs
theorem BU: ∀(ls:List Bytes) {s:gV},Good s->Good (dH st s ls).1:=by
 intro ls
 induction ls with
 |nil=>intro s h;exact h
 |cons l ls ih=>intro s h;exact ih (Wp h l)
theorem Gh: ∀(ls:List Bytes) {s:gV},st s=0->st (dH st s ls).1=0:=by
 intro ls
 induction ls with
 |nil=>intro s h;exact h
 |cons l ls ih=>intro s h;exact ih (Px h l)
theorem Gi: ∀(ls:List Bytes) (s:gV),(dH st s ls).2.length=ls.length:=by
 intro ls
 induction ls with
 |nil=>intro s;rfl
 |cons l ls ih=>intro s;simp[dH,ih]
theorem Gj: ∀(a b:List Bytes) (s:gV),dH st s (a++b)=((dH st (dH st s a).1 b).1,(dH st s a).2++(dH st (dH st s a).1 b).2):=by
 intro a
 induction a with
 |nil=>intro b s;rfl
 |cons x a ih=>intro b s;simp only[List.cons_append,dH,ih]
theorem Ob (ls:List Bytes) (l:Bytes) (s:gV):dH st s (ls++[l])=((oK st (dH st s ls).1 l).1,(dH st s ls).2++[(oK st (dH st s ls).1 l).2]):=by
 rw[Gj];rfl
end
def lW (w:Bytes) (ns:List Nat):Bytes:=ns.foldl (fun l k=>l++(32::decDigits k)) w
theorem Js (a:Bytes) (k:Nat):aS (a++(32::decDigits k))=aS a++[decDigits k]:=by
 induction a with
 |nil=>rw[List.nil_append,show aS (32::decDigits k)=[]::aS (decDigits k) from by rw[aS,if_pos rfl],yO _ (Iu k)];rfl
 |cons c a ih=>
  rw[List.cons_append,aS,aS,ih]
  split
  ·rfl
  ·cases hw:aS a with
   |nil=>exact absurd hw (iP a)
   |cons x y=>rfl
theorem FM: ∀(ns:List Nat) (w:Bytes),aS (lW w ns)=aS w++ns.map decDigits:=by
 intro ns
 induction ns with
 |nil=>intro w;simp[lW]
 |cons k ns ih=>
  intro w
  show aS (lW (w++(32::decDigits k)) ns)=_
  rw[ih,Js]
  simp
theorem RH: ∀(ns:List Nat),(∀k∈ns,k<10000)->iU (ns.map decDigits)=some (ns.map fun(k:Nat)=>(k:Int)):=by
 intro ns
 induction ns with
 |nil=>intro _;rfl
 |cons k ns ih=>
  intro h
  rw[List.map_cons,List.map_cons,iU,MS (h k (by simp)),Option.bind_some,ih (fun x hx=>h x (by simp[hx]))]
  rfl
theorem AX (c:gB): ∀x∈c.word,x≠32:=by cases c <;>decide
theorem zi (c:gB) (ns:List Nat) (hl:ns.length=c.many) (h: ∀k∈ns,k<10000):parse (lW c.word ns)=some (c,ns.map fun(k:Nat)=>(k:Int)):=by
 unfold parse
 rw[FM,yO _ (AX c)]
 simp only[List.singleton_append,List.headD_cons,List.tail_cons,zY,Option.bind_some,List.length_map]
 rw[if_pos hl,RH ns h]
 rfl
end Go.Proofs.YtabpkkbiioihaaaGreatDoor.Bk
end
section
namespace Go.Proofs.YtabpkkbiioihaaaGreatDoor.Bk
open gZ Go.Lib Go.Proofs.YtabpkkbiioihaaaGreatDoor.xH
theorem sS {last:Int} {p:Int->Bool} {i:Int}:i∈fP last p↔(0<=i/\i<=last)/\p i=true:=by
 unfold fP
 rw[List.mem_filter,List.mem_map]
 constructor
 ·rintro⟨⟨k,hk,rfl⟩,hp⟩
  have:=List.mem_range.1 hk
  exact⟨by omega,hp⟩
 ·rintro⟨h,hp⟩
  exact⟨⟨i.toNat,List.mem_range.2 (by omega),by omega⟩,hp⟩
variable {st : gV → Int}
end Go.Proofs.YtabpkkbiioihaaaGreatDoor.Bk
end
section
namespace Go.Proofs.YtabpkkbiioihaaaGreatDoor.Bk
open Go.RowKit Go.RG Go.SL Go.Shelf gZ Go.TB
def bI (l:List Bool):List Value:=l.map fun b=> .bool b
abbrev wO (w:World) (v:Value) (l:List Bool):Prop:=aB 1 w v l.length (bI l)
theorem wO.cell {w:World} {o:Option Addr} {n c:Nat} {l:List Bool} (h:aB 1 w (.slice o n c) n (bI l)) {k:Nat} (hk:k<l.length): ∃b off,o=some ⟨b,off,none⟩/\b<w.heap.size/\w.cell? ⟨b,off+k,none⟩=some (.bool l[k]):=by
 obtain⟨hl,o',c',hv,h1,h2,h3,h4⟩:=h
 cases hv
 have hlen:(bI l).length=l.length:=by simp[bI]
 cases o with
 |none=>have:=h3 rfl;omega
 |some a=>
  obtain⟨b,off,sp⟩:=a
  obtain⟨hs,hc⟩:=h4 _ rfl
  simp only at hs hc
  subst hs
  have h0:=hc k (.bool l[k]) (by simp[bI,hk])
  exact⟨b,off,rfl,World.block_lt_of_cell? w _ h0,h0⟩
theorem Bz (l:List Bool) (v:Value) (w:World) (hv:wO w v l):Calls Tryz.prog 82 #[v,.bool true] w (PV (.bool (l.contains true)) w):=by
 have hidx:Calls Tryz.prog 133 #[v,.bool true] w (fun e w'=>w=w'/\((l.contains true=true/\ ∃k:Nat,k<l.length/\e= .returned (iv k))∨(l.contains true=false/\e= .returned (iv (-1))))):=by
  have hlen:=aB.len hv
  obtain⟨o,c,rfl⟩:=aB.open hv
  have HV:=Lib.hid hv
  clear hv
  go_enter Tryz.func133,Tryz.ntmps133
  go_wp2
  go_loop [4,5,8] (fun _ _ i=> ∃k:Nat,k<=l.length/\i= .int .i64 k/\(∀j (hj:j<l.length),j<k->l[j]=false)) (fun _ _ i=>l.length-(intOf i).toNat)
  case atStart=>exact⟨0,Nat.zero_le _,rfl,fun j _ hj=>by omega⟩
  case round=>
   obtain⟨k,hk,rfl,hno⟩:=hrel
   have HN:=Lib.hid hno
   clear hno
   by_cases hlt:k<l.length
   ·obtain⟨b,off,rfl,hb,hc0⟩:=wO.cell HV.out hlt
    cases he:l[k]
    ·rw[he] at hc0
     have HE:=Lib.hid he
     clear he
     go_wp2
     go_round
     case rel=>exact⟨k+1,by omega,by go_num,fun j hj hjk=>(by by_cases e:j=k;(subst e;exact HE.out);exact HN.out j hj (by omega))⟩
     case measure=>simp[intOf];omega
    ·rw[he] at hc0
     have HE:=Lib.hid he
     clear he
     go_wp2
     go_returns
     exact⟨rfl,.inl ⟨by first|exact HE.out▸List.getElem_mem hlt|(rw[List.contains_iff_mem, <-HE.out];exact List.getElem_mem _),k,hlt,by simp⟩⟩
   ·have hkl:k=l.length:=by omega
    go_wp2
    go_returns
    refine⟨rfl,.inr ⟨?_,by simp⟩⟩
    (try rw[<-Bool.not_eq_true,List.contains_iff_mem])
    intro hm
    obtain⟨j,hj,e⟩:=List.getElem_of_mem hm
    have:=HN.out j hj (by omega)
    rw[this] at e
    cases e
 have HI:=Lib.hid hidx
 clear hidx
 go_enter Tryz.func82,Tryz.ntmps82
 go_wp2_with fail
 refine HI.out.mono ?_
 rintro e w' ⟨rfl,⟨hc,k,hk,rfl⟩|⟨hc,rfl⟩⟩
 ·have HC:=Lib.hid hc
  clear hc
  go_wp2_with fail
  go_returns
  exact⟨by rw[HC.out];simp,Below.refl _ _⟩
 ·have HC:=Lib.hid hc
  clear hc
  go_wp2_with fail
  go_returns
  exact⟨by rw[HC.out];simp,Below.refl _ _⟩
abbrev refusal (code:Int):List PanicEntry:=[{v:= .iface 105 (.agg #[iv code]),recovered:=false}]
def L8 (code:Int) (c:Bool) (w:World) (e:Ending) (w':World):Prop:=
 Below w.heap.size w w'/\((c=false/\e= .returned (.tuple #[]))∨(c=true/\e= .panicked (refusal code)))
theorem JR (code:Int) (l:List Bool) (v:Value) (w:World) (hv:wO w v l):Calls Tryz.prog 44 #[iv code,v] w (L8 code (l.contains true) w):=by
 have H:=Lib.hid (Bz l v w hv)
 obtain⟨o,c,rfl⟩:=aB.open hv
 clear hv
 cases hq:l.contains true
 ·rw[hq] at H
  clear hq
  go_enter Tryz.func44,Tryz.ntmps44
  go_wp2_with fail
  refine H.out.mono ?_
  rintro e w' ⟨rfl,hb⟩
  go_wp2_with fail
  go_end0
  exact⟨hb,.inl ⟨rfl,by simp⟩⟩
 ·rw[hq] at H
  clear hq
  go_enter Tryz.func44,Tryz.ntmps44
  go_wp2_with fail
  refine H.out.mono ?_
  rintro e w' ⟨rfl,hb⟩
  go_wp2_with fail
  exact⟨rfl,hb,.inr ⟨rfl,rfl⟩⟩
def dQ:gB->Nat
 | .row=>61
 | .left=>62
 | .tally=>63
 | .ve=>64
 | .jy=>65
 | .rate=>66
 | .box=>67
 | .note=>68
 | .void=>69
 | .start=>70
 | .bg=>71
 | .turn=>72
 | .kz=>73
 | .vP=>74
 | .unread=>75
 | .heap=>76
 | .strong=>77
 | .kN=>78
 | .fill=>79
 | .vg=>80
 | .nY=>81
abbrev WE:=Nat×Nat
abbrev ZV (e:WE):Value:= .agg #[iv e.1,.func (.func e.2) #[] #[]]
abbrev NL (s:ByteArray):Value:= .string s
abbrev keyOf (c:gB):ByteArray:=⟨c.word.toArray⟩
def JH:List (ByteArray×WE):=Ff.map fun c=>(keyOf c,(c.many,dQ c))
theorem Sj (s:ByteArray): ∀l:List gB,TB.look s (l.map fun c=>(keyOf c,(c.many,dQ c)))=(l.find? fun c=>c.word==s.data.toList).map fun c=>(c.many,dQ c):=by
 intro l
 induction l with
 |nil=>rfl
 |cons c l ih=>
  rw[List.map_cons,TB.look,List.find?_cons,ih]
  by_cases h:s=keyOf c
  ·subst h
   have:(c.word==(keyOf c).data.toList)=true:=by simp[keyOf]
   rw[if_pos rfl,this]
   rfl
  ·have:(c.word==s.data.toList)=false:=by
    rw[beq_eq_false_iff_ne]
    intro e
    refine h ?_
    cases s with
    |mk a=>simp only[keyOf] at*;rw[e]
   rw[if_neg h,this]
theorem Si (s:ByteArray):TB.look s JH=(nN s.data.toList).map fun c=>(c.many,dQ c):=Sj s Ff
theorem CZ (k:TypeId) (hk:Tryz.prog.underlying k=some .string) (a b:ByteArray) (w:World):(Op.equal k (.string a) (.string b)).run Tryz.prog w= .ok (decide (a=b)) w:=by
 unfold Op.equal Op.maxDepth
 simp only[go_sem,hk]
 rw[show(a.toList==b.toList)=decide (a=b) from by rw[Bool.eq_iff_iff,Lib.bytes_beq_iff,decide_eq_true_eq]]
theorem J6 (k:TypeId) (hk:Tryz.prog.underlying k=some .string) (x:Value) (w:World): ∀(es:List MapEntry) (i:Nat) (r:Option (Nat×Value)),Instr.findNow .string x es i=some r->(Instr.findAsking k x es i).run Tryz.prog w= .ok r w:=by
 intro es
 induction es with
 |nil=>intro i r h;simp only[Instr.findNow,Option.some.injEq] at h;subst h;rfl
 |cons e es ih=>
  intro i r h
  unfold Instr.findNow at h
  cases hs:Instr.sameNow .string x e.key with
  |none=>rw[hs] at h;cases h
  |some b=>
   rw[hs] at h
   obtain⟨a,c,hx,hc,hb⟩: ∃a c:ByteArray,x= .string a/\e.key= .string c/\b=decide (a=c):=by
    revert hs
    cases x <;>cases e.key <;>simp[Instr.sameNow]
    rename_i a c
    intro h
    rw[<-h]
    rw[Bool.eq_iff_iff,Go.MapKept.bytes_beq,decide_eq_true_eq]
   subst hx
   conv=>lhs;unfold Instr.findAsking
   simp only[Sem.run_bind,hc,CZ k hk a c w,Result.andThen_ok]
   cases b
   ·rw[<-hb]
    simp only[Bool.false_eq_true,if_false]
    exact ih (i+1) r h
   ·rw[<-hb]
    simp only[Option.some.injEq] at h
    subst h
    simp
theorem keyS:Qh Tryz.prog 9 NL (fun _=>True) where
 find w x es:=by
  have hk:Tryz.prog.underlying 9=some .string:=by kernel_rfl
  cases hn:Instr.findNow .string x es 0 with
  |none=>simp[Instr.findKey,run_underlying hk,hn]
  |some r=>
   rw[J6 9 hk x w es 0 r hn]
   simp[Instr.findKey,run_underlying hk,hn]
 check b a w _:=by
  unfold Instr.checkKey
  simp[go_sem]
 eq a b w _ _:=CZ _ (by kernel_rfl) a b w
 bits a _:=by simp only[Instr.sameBits];exact(Go.MapKept.bytes_beq a a).2 rfl
theorem Vh:TB.store (keyOf .nY) (gB.many .nY,dQ .nY) (TB.store (keyOf .vg) (gB.many .vg,dQ .vg) (TB.store (keyOf .fill) (gB.many .fill,dQ .fill) (TB.store (keyOf .kN) (gB.many .kN,dQ .kN) (TB.store (keyOf .strong) (gB.many .strong,dQ .strong) (TB.store (keyOf .heap) (gB.many .heap,dQ .heap) (TB.store (keyOf .unread) (gB.many .unread,dQ .unread) (TB.store (keyOf .vP) (gB.many .vP,dQ .vP) (TB.store (keyOf .kz) (gB.many .kz,dQ .kz) (TB.store (keyOf .turn) (gB.many .turn,dQ .turn) (TB.store (keyOf .bg) (gB.many .bg,dQ .bg) (TB.store (keyOf .start) (gB.many .start,dQ .start) (TB.store (keyOf .void) (gB.many .void,dQ .void) (TB.store (keyOf .note) (gB.many .note,dQ .note) (TB.store (keyOf .box) (gB.many .box,dQ .box) (TB.store (keyOf .rate) (gB.many .rate,dQ .rate) (TB.store (keyOf .jy) (gB.many .jy,dQ .jy) (TB.store (keyOf .ve) (gB.many .ve,dQ .ve) (TB.store (keyOf .tally) (gB.many .tally,dQ .tally) (TB.store (keyOf .left) (gB.many .left,dQ .left) (TB.store (keyOf .row) (gB.many .row,dQ .row) ([])))))))))))))))))))))=JH:=by
 decide+kernel
def Zu (w:World) (e:Ending) (w':World):Prop:= ∃mb,e= .returned (.map (some mb))/\w.heap.size<=mb/\TabAt NL ZV (fun _=>True) w' mb JH/\Below w.heap.size w w'
theorem NF (w:World):Calls Tryz.prog 43 #[] w (Zu w):=by
 have hmm:= @run_makeMap Tryz.prog
 have hm:Tryz.prog.underlying 111=some (.map 9 109):=by kernel_rfl
 have h0:TabAt NL ZV (fun _=>True) (w.alloc (.map #[] 0)) w.heap.size []:=Em (ag _ _)
 obtain⟨W1,r1,t1,e1⟩:=dK keyS hm h0 (keyOf .row) trivial (gB.many .row,dQ .row)
 obtain⟨W2,r2,t2,e2⟩:=dK keyS hm t1 (keyOf .left) trivial (gB.many .left,dQ .left)
 obtain⟨W3,r3,t3,e3⟩:=dK keyS hm t2 (keyOf .tally) trivial (gB.many .tally,dQ .tally)
 obtain⟨W4,r4,t4,e4⟩:=dK keyS hm t3 (keyOf .ve) trivial (gB.many .ve,dQ .ve)
 obtain⟨W5,r5,t5,e5⟩:=dK keyS hm t4 (keyOf .jy) trivial (gB.many .jy,dQ .jy)
 obtain⟨W6,r6,t6,e6⟩:=dK keyS hm t5 (keyOf .rate) trivial (gB.many .rate,dQ .rate)
 obtain⟨W7,r7,t7,e7⟩:=dK keyS hm t6 (keyOf .box) trivial (gB.many .box,dQ .box)
 obtain⟨W8,r8,t8,e8⟩:=dK keyS hm t7 (keyOf .note) trivial (gB.many .note,dQ .note)
 obtain⟨W9,r9,t9,e9⟩:=dK keyS hm t8 (keyOf .void) trivial (gB.many .void,dQ .void)
 obtain⟨XI,r10,t10,e10⟩:=dK keyS hm t9 (keyOf .start) trivial (gB.many .start,dQ .start)
 obtain⟨W11,r11,t11,e11⟩:=dK keyS hm t10 (keyOf .bg) trivial (gB.many .bg,dQ .bg)
 obtain⟨QB,r12,t12,e12⟩:=dK keyS hm t11 (keyOf .turn) trivial (gB.many .turn,dQ .turn)
 obtain⟨W13,r13,t13,e13⟩:=dK keyS hm t12 (keyOf .kz) trivial (gB.many .kz,dQ .kz)
 obtain⟨WS,r14,t14,e14⟩:=dK keyS hm t13 (keyOf .vP) trivial (gB.many .vP,dQ .vP)
 obtain⟨Qa,r15,t15,e15⟩:=dK keyS hm t14 (keyOf .unread) trivial (gB.many .unread,dQ .unread)
 obtain⟨W16,r16,t16,e16⟩:=dK keyS hm t15 (keyOf .heap) trivial (gB.many .heap,dQ .heap)
 obtain⟨Z5,r17,t17,e17⟩:=dK keyS hm t16 (keyOf .strong) trivial (gB.many .strong,dQ .strong)
 obtain⟨W18,r18,t18,e18⟩:=dK keyS hm t17 (keyOf .kN) trivial (gB.many .kN,dQ .kN)
 obtain⟨W19,r19,t19,e19⟩:=dK keyS hm t18 (keyOf .fill) trivial (gB.many .fill,dQ .fill)
 obtain⟨W20,r20,t20,e20⟩:=dK keyS hm t19 (keyOf .vg) trivial (gB.many .vg,dQ .vg)
 obtain⟨W21,r21,t21,e21⟩:=dK keyS hm t20 (keyOf .nY) trivial (gB.many .nY,dQ .nY)
 rw[Vh] at t21
 have hE:Ext [w.heap.size] (w.alloc (.map #[] 0)) W21:=(e1.trans (e2.trans (e3.trans (e4.trans (e5.trans (e6.trans (e7.trans (e8.trans (e9.trans (e10.trans (e11.trans (e12.trans (e13.trans (e14.trans (e15.trans (e16.trans (e17.trans (e18.trans (e19.trans (e20.trans e21))))))))))))))))))))
 have HB:=Lib.hid (show Below w.heap.size w W21 from(af (Below.refl _ _) _).trans ⟨hE.os,hE.tape,hE.output,hE.size,fun b hb=>hE.block b (by simp;omega) (by simp;omega)⟩)
 have HT:=Lib.hid t21
 have HE:Hid (w.heap.size<=w.heap.size):=Lib.hid (Nat.le_refl _)
 clear h0 hE hm t1 t2 t3 t4 t5 t6 t7 t8 t9 t10 t11 t12 t13 t14 t15 t16 t17 t18 t19 t20 t21 e1 e2 e3 e4 e5 e6 e7 e8 e9 e10 e11 e12 e13 e14 e15 e16 e17 e18 e19 e20 e21
 simp only[keyOf,gB.word,gB.many,dQ,NL,ZV,iv,Int.cast_ofNat_Int,Int.natCast_zero,Int.natCast_one] at r1 r2 r3 r4 r5 r6 r7 r8 r9 r10 r11 r12 r13 r14 r15 r16 r17 r18 r19 r20 r21
 go_enter Tryz.func43,Tryz.ntmps43
 go_wp2
 go_returns
 exact⟨_,by simp,Nat.le_refl _,HT.out,HB.out⟩
theorem I5 {w:World} {b n:Nat} {l:List Bool} {cs:Array Value} {t:TypeId} (h:w.heap[b]? =some (.cells cs t (0,0))) (hc:cs.toList=bI l) (hn:n=l.length) (hm:l.length<=100):wO w (.slice (some ⟨b,0,none⟩) n n) l:=by
 subst hn
 refine⟨by simp[bI],_,_,rfl,Nat.le_refl _,by simp only[maxLen];omega,(fun h=>by cases h),fun a ha=>?_⟩
 cases ha
 refine⟨rfl,?_⟩
 rw[<-hc]
 exact qQ h
theorem cu (code:Int) (l:List Bool) (w:World) (hm:l.length<=100) (cs:Array Value) (hc:cs.toList=bI l) (t:TypeId) (n:Nat) (hn:n=l.length):
 Calls Tryz.prog 44 #[iv code,.slice (some ⟨w.heap.size,0,none⟩) n n] (w.alloc (.cells cs t)) (L8 code (l.contains true) w):=by
 refine(JR code l _ _ (I5 (ag _ _) hc hn hm)).mono ?_
 rintro e w' ⟨hb,h⟩
 exact⟨aH (af (Below.refl _ _) _) hb,h⟩
theorem lh (a b:Int) (w:World):Calls Tryz.prog 117 #[iv a,iv b] w (L8 3 (decide (b<=a)) w):=by
 go_enter Tryz.func117,Tryz.ntmps117
 go_wp2_with fail
 refine(cu 3 [decide (b<=a)] w (by simp) _ (by simp[bI]) _ _ rfl).mono ?_
 rintro e w1 ⟨hb,⟨hc,rfl⟩|⟨hc,rfl⟩⟩
 ·(try go_wp2_with fail)
  go_end0
  exact⟨hb,.inl ⟨by simpa using hc,rfl⟩⟩
 ·exact⟨rfl,hb,.inr ⟨by simpa using hc,rfl⟩⟩
theorem fG (a b:Int) (w:World):Calls Tryz.prog 119 #[iv a,iv b] w (L8 7 (decide (b<=a)) w):=by
 go_enter Tryz.func119,Tryz.ntmps119
 go_wp2_with fail
 refine(cu 7 [decide (b<=a)] w (by simp) _ (by simp[bI]) _ _ rfl).mono ?_
 rintro e w1 ⟨hb,⟨hc,rfl⟩|⟨hc,rfl⟩⟩
 ·(try go_wp2_with fail)
  go_end0
  exact⟨hb,.inl ⟨by simpa using hc,rfl⟩⟩
 ·exact⟨rfl,hb,.inr ⟨by simpa using hc,rfl⟩⟩
theorem yY (a b m:Int) (w:World):Calls Tryz.prog 175 #[iv a,iv b,iv m] w (L8 2 (decide (b<a) ||decide (m<b)) w):=by
 go_enter Tryz.func175,Tryz.ntmps175
 go_wp2_with fail
 refine(cu 2 [decide (b<a),decide (m<b)] w (by simp) _ (by simp[bI]) _ _ rfl).mono ?_
 rintro e w1 ⟨hb,⟨hc,rfl⟩|⟨hc,rfl⟩⟩
 ·(try go_wp2_with fail)
  go_end0
  exact⟨hb,.inl ⟨by simpa using hc,rfl⟩⟩
 ·exact⟨rfl,hb,.inr ⟨by simpa using hc,rfl⟩⟩
theorem uz (a b m k:Int) (w:World) (hx:0<=a/\a<=100000/\0<=k/\k<=100000):Calls Tryz.prog 123 #[iv a,iv b,iv m,iv k] w (L8 2 (decide (b<a) ||(decide (m<b) ||decide (a+k<b))) w):=by
 go_enter Tryz.func123,Tryz.ntmps123
 go_wp2_with fail
 refine(cu 2 [decide (b<a),decide (m<b),decide (a+k<b)] w (by simp) _ (by simp[bI]) _ _ rfl).mono ?_
 rintro e w1 ⟨hb,⟨hc,rfl⟩|⟨hc,rfl⟩⟩
 ·(try go_wp2_with fail)
  go_end0
  exact⟨hb,.inl ⟨by simpa using hc,rfl⟩⟩
 ·exact⟨rfl,hb,.inr ⟨by simpa using hc,rfl⟩⟩
end Go.Proofs.YtabpkkbiioihaaaGreatDoor.Bk
end
section
namespace Go.Proofs.YtabpkkbiioihaaaGreatDoor.Bk
open Go.RowKit Go.RG Go.SL Go.Shelf gZ Go.TB Go.Proofs.YtabpkkbiioihaaaGreatDoor.xH
structure Row where
 t:TypeId
 size:Nat
 v:Value
 n:Nat
 xs:List Value
structure qG (N:Nat) (w:World) (wb:Nat) (R:List Row):Prop where
 own: ∀(i:Nat) (r:Row),R[i]? =some r->w.ownsRow N r.t r.size r.v r.n r.xs
 apart: ∀(i j:Nat) (a b:Row),R[i]? =some a->R[j]? =some b->i≠j->a.v.ownBlock=none∨a.v.ownBlock≠b.v.ownBlock
 off: ∀(i:Nat) (r:Row),R[i]? =some r->r.v.ownBlock≠some wb
 lt:wb<w.heap.size
 base:N<=wb
theorem cZ {w W:World} {N:Nat} {t:TypeId} {size:Nat} {v:Value} {n:Nat} {xs:List Value} (h:w.ownsRow N t size v n xs) {Ms:List Nat} (hE:Ext Ms w W) (hM: ∀b,v.ownBlock=some b->b∉Ms):W.ownsRow N t size v n xs:=by
 obtain⟨h1,h2|⟨g,c,cs,rfl,hb,hc,h3⟩⟩:=h
 ·exact⟨h1,.inl h2⟩
 ·exact⟨h1,.inr ⟨g,c,cs,rfl,hb,(hE.block g (Array.getElem?_eq_some_iff.1 hc).1 (hM g rfl)).trans hc,h3⟩⟩
theorem qG.keep {N:Nat} {w W:World} {wb:Nat} {R:List Row} (h:qG N w wb R) {Ms:List Nat} (hE:Ext Ms w W) (hM: ∀m∈Ms,m=wb∨m<N):qG N W wb R where
 own i r hr:=cZ (h.own i r hr) hE (fun b hb hm=>by
  rcases hM b hm with rfl|h1
  ·exact h.off i r hr hb
  ·have:=((h.own i r hr).lt b hb).1;omega)
 apart:=h.apart
 off:=h.off
 lt:=Nat.lt_of_lt_of_le h.lt hE.size
 base:=h.base
theorem qG.put {N:Nat} {w W:World} {wb:Nat} {R:List Row} (h:qG N w wb R) {i:Nat} {r:Row} (hr:R[i]? =some r) (r':Row) {Ms:List Nat} (hE:Ext Ms w W) (hM: ∀m∈Ms,m=wb∨m<N∨r.v.ownBlock=some m)
 (ho:W.ownsRow N r'.t r'.size r'.v r'.n r'.xs) (hb:r'.v.ownBlock=r.v.ownBlock∨r'.v.ownBlock=none∨ ∃k,r'.v.ownBlock=some k/\w.heap.size<=k):qG N W wb (R.set i r'):=by
 have hlt:=(List.getElem?_eq_some_iff.1 hr).1
 have key: ∀(j:Nat) (x:Row),(R.set i r')[j]? =some x->(j=i/\x=r')∨(j≠i/\R[j]? =some x):=by
  intro j x hx
  rw[List.getElem?_set] at hx
  by_cases e:i=j
  ·subst e
   rw[if_pos rfl,if_pos hlt] at hx
   exact .inl ⟨rfl,(Option.some.inj hx).symm⟩
  ·rw[if_neg e] at hx
   exact .inr ⟨fun h=>e h.symm,hx⟩
 have new: ∀(j:Nat) (x:Row),R[j]? =some x->j≠i->x.v.ownBlock=none∨x.v.ownBlock≠r'.v.ownBlock:=by
  intro j x hx hj
  rcases hb with hb|hb|⟨k,hk,hs⟩
  ·rw[hb];exact h.apart j i x r hx hr hj
  ·rw[hb]
   cases x.v.ownBlock with
   |none=>exact .inl rfl
   |some b=>exact .inr (by simp)
  ·rw[hk]
   cases hxb:x.v.ownBlock with
   |none=>exact .inl rfl
   |some b=>
    refine .inr fun e=>?_
    obtain rfl:=Option.some.inj e
    have:=((h.own j x hx).lt b hxb).2
    omega
 refine⟨fun j x hx=>?_,fun j k a b ha hbb hjk=>?_,fun j x hx=>?_,Nat.lt_of_lt_of_le h.lt hE.size,h.base⟩
 ·rcases key j x hx with⟨rfl,rfl⟩|⟨hj,hx'⟩
  ·exact ho
  ·refine cZ (h.own j x hx') hE (fun b hbb hm=>?_)
   rcases hM b hm with rfl|h1|h1
   ·exact h.off j x hx' hbb
   ·have:=((h.own j x hx').lt b hbb).1;omega
   ·rcases h.apart j i x r hx' hr hj with h2|h2
    ·rw[h2] at hbb;cases hbb
    ·exact h2 (hbb.trans h1.symm)
 ·rcases key j a ha with⟨rfl,rfl⟩|⟨hj,ha'⟩
  ·rcases key k b hbb with⟨rfl,rfl⟩|⟨hk,hb'⟩
   ·exact absurd rfl hjk
   ·rcases new k b hb' hk with h1|h1
    ·rcases hq:a.v.ownBlock with _|q
     ·exact .inl rfl
     ·exact .inr (by rw[h1];simp)
    ·exact .inr fun e=>h1 e.symm
  ·rcases key k b hbb with⟨rfl,rfl⟩|⟨hk,hb'⟩
   ·exact new j a ha' hj
   ·exact h.apart j k a b ha' hb' hjk
 ·rcases key j x hx with⟨rfl,rfl⟩|⟨hj,hx'⟩
  ·rcases hb with hb|hb|⟨k,hk,hs⟩
   ·rw[hb];exact h.off _ r hr
   ·rw[hb];simp
   ·rw[hk];intro e;obtain rfl:=Option.some.inj e;have:=h.lt;omega
  ·exact h.off j x hx'
theorem qG.push {N:Nat} {w W:World} {wb:Nat} {R:List Row} (h:qG N w wb R) (r':Row) {Ms:List Nat} (hE:Ext Ms w W) (hM: ∀m∈Ms,m=wb∨m<N)
 (ho:W.ownsRow N r'.t r'.size r'.v r'.n r'.xs) (hb:r'.v.ownBlock=none∨ ∃k,r'.v.ownBlock=some k/\w.heap.size<=k):qG N W wb (R++[r']):=by
 have hk:=h.keep hE hM
 have key: ∀(j:Nat) (x:Row),(R++[r'])[j]? =some x->(R[j]? =some x)∨(j=R.length/\x=r'):=by
  intro j x hx
  by_cases hj:j<R.length
  ·rw[List.getElem?_append_left hj] at hx;exact .inl hx
  ·rw[List.getElem?_append_right (by omega)] at hx
   have h0:=(List.getElem?_eq_some_iff.1 hx).1
   simp only[List.length_cons,List.length_nil] at h0
   have:j-R.length=0:=by omega
   rw[this] at hx
   simp only[List.getElem?_cons_zero,Option.some.injEq] at hx
   exact .inr ⟨by omega,hx.symm⟩
 have new: ∀(j:Nat) (x:Row),R[j]? =some x->(x.v.ownBlock=none∨x.v.ownBlock≠r'.v.ownBlock)/\(r'.v.ownBlock=none∨r'.v.ownBlock≠x.v.ownBlock):=by
  intro j x hx
  rcases hb with hb|⟨k,hk,hs⟩
  ·rw[hb]
   refine⟨?_,.inl rfl⟩
   cases x.v.ownBlock with
   |none=>exact .inl rfl
   |some b=>exact .inr (by simp)
  ·have:x.v.ownBlock≠some k:=fun e=>by have:=((h.own j x hx).lt k e).2;omega
   rw[hk]
   exact⟨.inr this,.inr fun e=>this e.symm⟩
 refine⟨fun j x hx=>?_,fun j k a b ha hbb hjk=>?_,fun j x hx=>?_,hk.lt,h.base⟩
 ·rcases key j x hx with h1|⟨_,rfl⟩
  ·exact hk.own j x h1
  ·exact ho
 ·rcases key j a ha with h1|⟨h1,rfl⟩ <;>rcases key k b hbb with h2|⟨h2,rfl⟩
  ·exact h.apart j k a b h1 h2 hjk
  ·exact(new j a h1).1
  ·exact(new k b h2).2
  ·omega
 ·rcases key j x hx with h1|⟨_,rfl⟩
  ·exact h.off j x h1
  ·rcases hb with hb|⟨k,hk,hs⟩
   ·rw[hb];simp
   ·rw[hk];intro e;obtain rfl:=Option.some.inj e;have:=h.lt;omega
structure SV where
 pM:Value
 MV:Value
 bg:Value
 Qw:Value
 Rh:Value
 hps:Value
 Zj:Value
 trs:Value
abbrev bV (s:gV) (V:SV):Array Value:=
 #[iv s.led.field.rows,iv s.led.field.ai,iv s.led.field.left.1,iv s.led.field.left.2,V.pM,iv s.led.rate,iv s.led.box.1,iv s.led.box.2,V.MV,
   iv s.heap.last,iv s.heap.size,iv s.heap.aY,iv s.heap.die,iv s.heap.pI,iv s.heap.start.1,iv s.heap.start.2,V.bg,V.Qw,V.Rh,V.hps,V.Zj,V.trs]
def tN (e:KE):Row:=⟨3,1,e.1,e.2.length,intCells e.2⟩
def eQ (s:gV) (V:SV) (es:List KE):List Row:=
 [⟨122,5,V.pM,s.led.field.ae.length,bM s.led.field.ae⟩,⟨151,3,V.MV,s.led.notes.length,aF s.led.notes⟩,
   ⟨34,2,V.bg,s.heap.bg.length,aj s.heap.bg⟩,⟨3,1,V.Qw,s.heap.turns.length,intCells s.heap.turns⟩,⟨156,3,V.Rh,s.heap.readings.length,aF s.heap.readings⟩,
   ⟨103,2,V.hps,s.bG.heaps.length,aj s.bG.heaps⟩,⟨36,1,V.Zj,es.length,dw es⟩,⟨161,4,V.trs,s.bG.au.length,dR s.bG.au⟩]++es.map tN
structure gU (N:Nat) (w:World) (wb:Nat) (s:gV) (V:SV) (es:List KE):Prop where
 blk:w.heap[wb]? =some (.cells (bV s V) 117 (0,0))
 rows:qG N w wb (eQ s V es)
 es:es.map (·.2)=s.bG.aC
def mF (N:Nat) (w:World) (ns:Value) (l:List Int):Prop:= ∃b c,ns= .slice (some ⟨b,0,none⟩) l.length c/\b<N/\ ∀(j:Nat) (h:j<l.length),w.cell? ⟨b,j,none⟩=some (iv l[j])
def lM (N:Nat) (wb:Nat) (x:Int×gV) (w:World) (e:Ending) (w':World):Prop:=
 Below N w w'/\((x.1=0/\e= .returned (.tuple #[])/\ ∃V es,gU N w' wb x.2 V es)∨(x.1≠0/\e= .panicked (refusal x.1)))
theorem dm {N:Nat} {w:World} {wb:Nat} {s:gV} {V:SV} {es:List KE} (h:gU N w wb s V es):N<=w.heap.size:=by have:=h.rows.lt;have:=h.rows.base;omega
theorem gU.below {N:Nat} {w W:World} {wb:Nat} {s:gV} {V:SV} {es:List KE} (h:gU N w wb s V es) (hb:Below w.heap.size w W):gU N W wb s V es:=
 ⟨(hb.block _ h.rows.lt).trans h.blk,h.rows.keep (Ms:=[]) (Ext.of_below hb) (by simp),h.es⟩
theorem gU.store {N:Nat} {w W:World} {wb:Nat} {s s':gV} {V:SV} {es:List KE} (h:gU N w wb s V es) (hE:Ext [wb] w W) (hb:W.heap[wb]? =some (.cells (bV s' V) 117 (0,0))) (hr:eQ s' V es=eQ s V es) (hc:s'.bG.aC=s.bG.aC):gU N W wb s' V es:=
 ⟨hb,by rw[hr];exact h.rows.keep hE (fun m hm=> .inl (by simpa using hm)),by rw[hc];exact h.es⟩
theorem dO {W:World} {b off:Nat} {v:Value}:Ext [b] W (W.setCell ⟨b,off,none⟩ v):=
 ⟨rfl,rfl,rfl,by simp[World.setCell],fun k _ hm=>heap_setCell_other W _ k v (by simpa using hm)⟩
theorem aU (a b m:Int):(wW a b m=false)= ¬(a<=b/\b<=m):=by
 unfold wW
 by_cases h1:a<=b <;>by_cases h2:b<=m <;>simp[h1,h2]
theorem aV (a b m k:Int):(En a b m k=false)= ¬(a<=b/\b<=m/\b<=a+k):=by
 unfold En
 by_cases h1:a<=b <;>by_cases h2:b<=m <;>by_cases h3:b<=a+k <;>simp[h1,h2,h3]
def Zw (c:Prop) (v:Value) (w:World) (e:Ending) (w':World):Prop:=Below w.heap.size w w'/\((c/\e= .returned v)∨(¬c/\e= .panicked (refusal 2)))
theorem pR {N wb:Nat} {x:Int×gV} {w w':World} {c:Int} (h3:Below N w w') (hx:x.1=c) (hc:c≠0):lM N wb x w (.panicked (refusal c)) w':=⟨h3,.inr ⟨by rw[hx];exact hc,by rw[hx]⟩⟩
theorem oW (a b:Int) (w:World):Calls Tryz.prog 121 #[iv a,iv b] w (Zw (a<=b/\b<=2000) (rv (a,b)) w):=by
 go_enter Tryz.func121,Tryz.ntmps121
 go_wp2_with fail
 refine(yY _ _ _ _).mono ?_
 rintro e w1 ⟨hb,⟨hc,rfl⟩|⟨hc,rfl⟩⟩
 ·simp only[Bool.or_eq_false_iff,decide_eq_false_iff_not] at hc
  have HB:=Lib.hid hb
  obtain⟨c0,f0,l0⟩:=cells_of_block ((hb.block w.heap.size (by simp)).trans (ag _ _))
  have HC:=Lib.hid hc
  have c00:=c0 0
  have c01:=c0 1
  simp at c00 c01
  have d0:(w1.setCell ⟨w.heap.size,0,none⟩ (iv a)).cell? ⟨w.heap.size,0,none⟩=some (iv a):=World.cell?_setCell_same _ _ _ c00
  have d1:((w1.setCell ⟨w.heap.size,0,none⟩ (iv a)).setCell ⟨w.heap.size,1,none⟩ (iv b)).cell? ⟨w.heap.size,1,none⟩=some (iv b):=World.cell?_setCell_same _ _ _ ((World.cell?_setCell_other _ _ _ _ (by simp)).trans c01)
  clear hb hc c0
  go_wp2_with fail
  (try simp only[Exit.inBlock,Exit.then])
  refine bodyPost_ret (v:=rv (a,b)) (by simp[results,Tryz.results121,go_sem,d0,d1]) rfl ?_
  exact⟨((aH (af (Below.refl _ _) _) HB.out).setCell (Nat.le_refl _) _).setCell (Nat.le_refl _) _,.inl ⟨by have:=HC.out;omega,rfl⟩⟩
 ·simp only[Bool.or_eq_true,decide_eq_true_eq] at hc
  exact⟨rfl,aH (af (Below.refl _ _) _) hb,.inr ⟨by omega,rfl⟩⟩
theorem ou (a b:Int) (wb:Nat) (s:gV) (V:SV) (w:World) (hblk:w.heap[wb]? =some (.cells (bV s V) 117 (0,0))):Calls Tryz.prog 118 #[.pointer (some ⟨wb,0,none⟩),iv a,iv b] w (Zw (a<=b/\b<=s.led.field.rows) (rv (a,b)) w):=by
 obtain⟨k0,g0,j0⟩:=cells_of_block hblk
 clear hblk
 go_enter Tryz.func118,Tryz.ntmps118
 go_wp2_with fail
 refine(yY _ _ _ _).mono ?_
 rintro e w1 ⟨hb,⟨hc,rfl⟩|⟨hc,rfl⟩⟩
 ·simp only[Bool.or_eq_false_iff,decide_eq_false_iff_not] at hc
  have HB:=Lib.hid hb
  obtain⟨c0,f0,l0⟩:=cells_of_block ((hb.block w.heap.size (by simp)).trans (ag _ _))
  have HC:=Lib.hid hc
  have c00:=c0 0
  have c01:=c0 1
  simp at c00 c01
  have d0:(w1.setCell ⟨w.heap.size,0,none⟩ (iv a)).cell? ⟨w.heap.size,0,none⟩=some (iv a):=World.cell?_setCell_same _ _ _ c00
  have d1:((w1.setCell ⟨w.heap.size,0,none⟩ (iv a)).setCell ⟨w.heap.size,1,none⟩ (iv b)).cell? ⟨w.heap.size,1,none⟩=some (iv b):=World.cell?_setCell_same _ _ _ ((World.cell?_setCell_other _ _ _ _ (by simp)).trans c01)
  clear hb hc c0 k0 g0 j0
  go_wp2_with fail
  (try simp only[Exit.inBlock,Exit.then])
  refine bodyPost_ret (v:=rv (a,b)) (by simp[results,Tryz.results118,go_sem,d0,d1]) rfl ?_
  exact⟨((aH (af (Below.refl _ _) _) HB.out).setCell (Nat.le_refl _) _).setCell (Nat.le_refl _) _,.inl ⟨by have:=HC.out;omega,rfl⟩⟩
 ·simp only[Bool.or_eq_true,decide_eq_true_eq] at hc
  exact⟨rfl,aH (af (Below.refl _ _) _) hb,.inr ⟨by omega,rfl⟩⟩
theorem pO (a b k:Int) (w:World) (hx:0<=a/\a<=100000/\0<=k/\k<=100000):Calls Tryz.prog 129 #[iv a,iv b,iv k] w (Zw (a<=b/\b<=100/\b<=a+k) (rv (a,b)) w):=by
 go_enter Tryz.func129,Tryz.ntmps129
 go_wp2_with fail
 refine(uz _ _ _ _ _ hx).mono ?_
 rintro e w1 ⟨hb,⟨hc,rfl⟩|⟨hc,rfl⟩⟩
 ·simp only[Bool.or_eq_false_iff,decide_eq_false_iff_not] at hc
  have HB:=Lib.hid hb
  obtain⟨c0,f0,l0⟩:=cells_of_block ((hb.block w.heap.size (by simp)).trans (ag _ _))
  have HC:=Lib.hid hc
  have c00:=c0 0
  have c01:=c0 1
  simp at c00 c01
  have d0:(w1.setCell ⟨w.heap.size,0,none⟩ (iv a)).cell? ⟨w.heap.size,0,none⟩=some (iv a):=World.cell?_setCell_same _ _ _ c00
  have d1:((w1.setCell ⟨w.heap.size,0,none⟩ (iv a)).setCell ⟨w.heap.size,1,none⟩ (iv b)).cell? ⟨w.heap.size,1,none⟩=some (iv b):=World.cell?_setCell_same _ _ _ ((World.cell?_setCell_other _ _ _ _ (by simp)).trans c01)
  clear hb hc c0
  go_wp2_with fail
  (try simp only[Exit.inBlock,Exit.then])
  refine bodyPost_ret (v:=rv (a,b)) (by simp[results,Tryz.results129,go_sem,d0,d1]) rfl ?_
  exact⟨((aH (af (Below.refl _ _) _) HB.out).setCell (Nat.le_refl _) _).setCell (Nat.le_refl _) _,.inl ⟨by have:=HC.out;omega,rfl⟩⟩
 ·simp only[Bool.or_eq_true,decide_eq_true_eq] at hc
  exact⟨rfl,aH (af (Below.refl _ _) _) hb,.inr ⟨by omega,rfl⟩⟩
theorem rC (a:Int) (wb:Nat) (s:gV) (V:SV) (w:World) (hblk:w.heap[wb]? =some (.cells (bV s V) 117 (0,0))) (hl:s.heap.last=4):Calls Tryz.prog 124 #[.pointer (some ⟨wb,0,none⟩),iv a] w (L8 7 (decide (4<a)) w):=by
 obtain⟨k0,g0,j0⟩:=cells_of_block hblk
 clear hblk
 go_enter Tryz.func124,Tryz.ntmps124
 go_wp2_with fail
 refine(fG _ _ _).mono ?_
 rintro e w1 ⟨hb,⟨hc,rfl⟩|⟨hc,rfl⟩⟩
 ·(try go_wp2_with fail)
  go_end0
  exact⟨hb,.inl ⟨by simp at hc⊢;omega,rfl⟩⟩
 ·exact⟨rfl,hb,.inr ⟨by simp at hc⊢;omega,rfl⟩⟩
theorem Vq (N:Nat) (w:World) (wb:Nat) (s:gV) (V:SV) (es:List KE) (ns:Value) (hO:gU N w wb s V es) (hG:Good s):Calls Tryz.prog 61 #[.pointer (some ⟨wb,0,none⟩),ns] w (lM N wb (act s .row []) w):=by
 have HO:=Lib.hid hO
 have hr:=hG.rows
 obtain⟨c0,f0,l0⟩:=cells_of_block hO.blk
 clear hO hG
 go_enter Tryz.func61,Tryz.ntmps61
 go_wp2_with fail
 refine(lh _ _ _).mono ?_
 rintro e w1 ⟨hb,⟨hc,rfl⟩|⟨hc,rfl⟩⟩
 ·obtain⟨c1,f1,l1⟩:=cells_of_block ((hb.block _ l0).trans HO.out.blk)
  have HB:=Lib.hid hb
  clear hb c0 f0
  have hlt: ¬5<=s.led.field.rows:=by simpa using hc
  have hlt':s.led.field.rows<5:=by omega
  clear hc
  go_wp2_with fail
  go_end0
  have uJ:=HO.out.below HB.out
  simp only[act]
  rw[if_neg (by omega)]
  refine⟨(HB.out.mono (dm HO.out)).setCell HO.out.rows.base _,.inl ⟨rfl,rfl,V,es,?_⟩⟩
  exact uJ.store dO (ak uJ.blk _) rfl rfl
 ·have hge:5<=s.led.field.rows:=by simpa using hc
  simp only[act]
  rw[if_pos hge]
  exact⟨rfl,hb.mono (dm HO.out),.inr ⟨by simp,rfl⟩⟩
theorem Ri (N:Nat) (w:World) (wb:Nat) (s:gV) (V:SV) (es:List KE) (ns:Value) (x:Int) (hO:gU N w wb s V es) (hn:mF N w ns [x]):Calls Tryz.prog 66 #[.pointer (some ⟨wb,0,none⟩),ns] w (lM N wb (act s .rate [x]) w):=by
 obtain⟨vt,vn,vw,vu,vr,vh,vk,vs⟩:=V
 have HO:=Lib.hid hO
 have dP:=dm hO
 obtain⟨b,c,rfl,hbN,hcs⟩:=hn
 have lb:b<w.heap.size:=by omega
 have lw:=hO.rows.lt
 have pK:=hO.rows.base
 have HW:Hid (∀W,Below N w W->b<W.heap.size/\ ∀(j:Nat) (h:j<[x].length),W.cell? ⟨b,j,none⟩=some (iv [x][j])):=Lib.hid (fun W hB=>⟨by have:=hB.size;omega,fun j h=>(World.cell?_of_block (hB.block b hbN)).trans (hcs j h)⟩)
 obtain⟨c0,f0,l0⟩:=cells_of_block hO.blk
 have jY:=hcs 0 (by simp)
 simp only[List.getElem_cons_zero,List.getElem_cons_succ] at jY
 have HB0:Hid (Below w.heap.size w w):=Lib.hid (Below.refl _ _)
 clear hO hcs
 go_enter Tryz.func66,Tryz.ntmps66
 go_wp2_with fail
 refine zg 8 [] none [] ?_
 simp only[zt]
 repeat ((first|refine zd ?_|refine zk ?_);simp only[zp])
 intro W1 hE hF
 have HB1:=Lib.hid (aH HB0.out hE.below)
 clear hE hF c0 f0 jY
 obtain⟨c1,f1,l1⟩:=cells_of_block ((HB1.out.block _ lw).trans HO.out.blk)
 obtain⟨pX,hcs1⟩:=HW.out W1 (HB1.out.mono dP)
 have n10:=hcs1 0 (by simp)
 simp only[List.getElem_cons_zero,List.getElem_cons_succ] at n10
 clear hcs1
 go_wp2_with fail
 refine(cu 2 [x==0,decide (50<x)] W1 (by simp) _ (by simp[bI]) _ _ rfl).mono ?_
 rintro e W2 ⟨hb,⟨hc,rfl⟩|⟨hc,rfl⟩⟩
 rotate_left
 ·simp at hc
  simp only[act,aU,aV,List.getD_cons_zero,List.getD_cons_succ]
  (repeat (first|rw[if_pos (by omega)]|rw[if_neg (by omega)]))
  exact⟨rfl,(aH HB1.out hb).mono dP,.inr ⟨by simp,rfl⟩⟩
 simp at hc
 have HB2:=Lib.hid (aH HB1.out hb)
 have gJ:=Lib.hid hc
 clear hb hc c1 f1 pX n10
 obtain⟨c2,f2,l2⟩:=cells_of_block ((HB2.out.block _ lw).trans HO.out.blk)
 obtain⟨qI,hcs2⟩:=HW.out W2 (HB2.out.mono dP)
 have n20:=hcs2 0 (by simp)
 simp only[List.getElem_cons_zero,List.getElem_cons_succ] at n20
 clear hcs2
 go_wp2_with fail
 go_end0
 have q0:=gJ.out
 simp only[act,aU,aV,List.getD_cons_zero,List.getD_cons_succ]
 (repeat (first|rw[if_pos (by omega)]|rw[if_neg (by omega)]))
 have uJ:=HO.out.below HB2.out
 exact⟨((HB2.out.mono dP).setCell pK _),.inl ⟨rfl,rfl,_,es,uJ.store (dO) (ak (uJ.blk) _) rfl rfl⟩⟩
theorem WM (N:Nat) (w:World) (wb:Nat) (s:gV) (V:SV) (es:List KE) (ns:Value) (x y:Int) (hO:gU N w wb s V es) (hn:mF N w ns [x,y]):Calls Tryz.prog 67 #[.pointer (some ⟨wb,0,none⟩),ns] w (lM N wb (act s .box [x,y]) w):=by
 obtain⟨vt,vn,vw,vu,vr,vh,vk,vs⟩:=V
 have HO:=Lib.hid hO
 have dP:=dm hO
 obtain⟨b,c,rfl,hbN,hcs⟩:=hn
 have lb:b<w.heap.size:=by omega
 have lw:=hO.rows.lt
 have pK:=hO.rows.base
 have HW:Hid (∀W,Below N w W->b<W.heap.size/\ ∀(j:Nat) (h:j<[x,y].length),W.cell? ⟨b,j,none⟩=some (iv [x,y][j])):=Lib.hid (fun W hB=>⟨by have:=hB.size;omega,fun j h=>(World.cell?_of_block (hB.block b hbN)).trans (hcs j h)⟩)
 obtain⟨c0,f0,l0⟩:=cells_of_block hO.blk
 have jY:=hcs 0 (by simp)
 simp only[List.getElem_cons_zero,List.getElem_cons_succ] at jY
 have n01:=hcs 1 (by simp)
 simp only[List.getElem_cons_zero,List.getElem_cons_succ] at n01
 have HB0:Hid (Below w.heap.size w w):=Lib.hid (Below.refl _ _)
 clear hO hcs
 go_enter Tryz.func67,Tryz.ntmps67
 go_wp2_with fail
 refine RX.dM (fun ps W'=> ¬(x<=y/\y<=2000)/\ps=refusal 2/\Below N w W') 8 [] none [(7,⟨fun _ v=>v=rv (x,y),fun _ _ _=>(x<=y/\y<=2000)⟩)] (by rintro ps a1 Wx hdf ⟨h1,rfl,h3⟩;refine⟨hdf,pR (c:=2) h3 ?_ (by decide)⟩;simp only[act,aU,aV,List.getD_cons_zero,List.getD_cons_succ];(repeat (first|rw[if_pos (by omega)]|rw[if_neg (by omega)]))) (by as_aux_lemma=>kernel_rfl) (by as_aux_lemma=>kernel_rfl) ?_
 simp only[zt]
 repeat (refine RX.zd ?_;simp only[zp])
 refine RX.aP _ (by rfl) (by rfl) ⟨_,rfl⟩ (fun Wq hE2 hF2=>?_) (fun v Wa Wb ho hE=>ho) (fun v hv=>?_)
 ·have hE':Ext [] w Wq:=hE2
  refine RX.bU 121 #[iv x,iv y] (by go_simp;try rfl) ?_
  refine(oW x y Wq).mono ?_
  rintro e w' ⟨hb,⟨hc,rfl⟩|⟨hc,rfl⟩⟩
  ·exact .inl ⟨_,rfl,rfl,hc,Ext.of_below hb⟩
  ·exact .inr ⟨_,rfl,hc,rfl,(aH HB0.out (aH hE'.below hb)).mono dP⟩
 obtain rfl:v=rv (x,y):=hv
 simp only[zp]
 intro W1 hE hF
 have hc:x<=y/\y<=2000:=hF _ (List.Mem.head _)
 have HB1:=Lib.hid (aH HB0.out (show Ext [] w W1 from hE).below)
 have gJ:=Lib.hid hc
 clear hE hF hc c0 f0 jY n01
 obtain⟨c1,f1,l1⟩:=cells_of_block ((HB1.out.block _ lw).trans HO.out.blk)
 obtain⟨pX,hcs1⟩:=HW.out W1 (HB1.out.mono dP)
 have n10:=hcs1 0 (by simp)
 simp only[List.getElem_cons_zero,List.getElem_cons_succ] at n10
 have n11:=hcs1 1 (by simp)
 simp only[List.getElem_cons_zero,List.getElem_cons_succ] at n11
 clear hcs1
 go_wp2_with fail
 go_end0
 have q0:=gJ.out
 simp only[act,aU,aV,List.getD_cons_zero,List.getD_cons_succ]
 (repeat (first|rw[if_pos (by omega)]|rw[if_neg (by omega)]))
 have uJ:=HO.out.below HB1.out
 exact⟨(((HB1.out.mono dP).setCell pK _).setCell pK _),.inl ⟨rfl,rfl,_,es,uJ.store ((dO).trans dO) (ak (ak (uJ.blk) _) _) rfl rfl⟩⟩
theorem Sm (N:Nat) (w:World) (wb:Nat) (s:gV) (V:SV) (es:List KE) (ns:Value) (x y:Int) (hO:gU N w wb s V es) (hn:mF N w ns [x,y]):Calls Tryz.prog 62 #[.pointer (some ⟨wb,0,none⟩),ns] w (lM N wb (act s .left [x,y]) w):=by
 obtain⟨vt,vn,vw,vu,vr,vh,vk,vs⟩:=V
 have HO:=Lib.hid hO
 have dP:=dm hO
 obtain⟨b,c,rfl,hbN,hcs⟩:=hn
 have lb:b<w.heap.size:=by omega
 have lw:=hO.rows.lt
 have pK:=hO.rows.base
 have HW:Hid (∀W,Below N w W->b<W.heap.size/\ ∀(j:Nat) (h:j<[x,y].length),W.cell? ⟨b,j,none⟩=some (iv [x,y][j])):=Lib.hid (fun W hB=>⟨by have:=hB.size;omega,fun j h=>(World.cell?_of_block (hB.block b hbN)).trans (hcs j h)⟩)
 obtain⟨c0,f0,l0⟩:=cells_of_block hO.blk
 have jY:=hcs 0 (by simp)
 simp only[List.getElem_cons_zero,List.getElem_cons_succ] at jY
 have n01:=hcs 1 (by simp)
 simp only[List.getElem_cons_zero,List.getElem_cons_succ] at n01
 have HB0:Hid (Below w.heap.size w w):=Lib.hid (Below.refl _ _)
 clear hO hcs
 go_enter Tryz.func62,Tryz.ntmps62
 go_wp2_with fail
 refine RX.dM (fun ps W'=> ¬(x<=y/\y<=s.led.field.rows)/\ps=refusal 2/\Below N w W') 9 [] none [(8,⟨fun _ v=>v=rv (x,y),fun _ _ _=>(x<=y/\y<=s.led.field.rows)⟩)] (by rintro ps a1 Wx hdf ⟨h1,rfl,h3⟩;refine⟨hdf,pR (c:=2) h3 ?_ (by decide)⟩;simp only[act,aU,aV,List.getD_cons_zero,List.getD_cons_succ];(repeat (first|rw[if_pos (by omega)]|rw[if_neg (by omega)]))) (by as_aux_lemma=>kernel_rfl) (by as_aux_lemma=>kernel_rfl) ?_
 simp only[zt]
 repeat (refine RX.zd ?_;simp only[zp])
 refine RX.aP _ (by rfl) (by rfl) ⟨_,rfl⟩ (fun Wq hE2 hF2=>?_) (fun v Wa Wb ho hE=>ho) (fun v hv=>?_)
 ·have hE':Ext [] w Wq:=hE2
  refine RX.bU 118 #[.pointer (some ⟨wb,0,none⟩),iv x,iv y] (by go_simp;try rfl) ?_
  refine(ou x y wb s _ Wq ((hE'.block _ lw (by simp)).trans HO.out.blk)).mono ?_
  rintro e w' ⟨hb,⟨hc,rfl⟩|⟨hc,rfl⟩⟩
  ·exact .inl ⟨_,rfl,rfl,hc,Ext.of_below hb⟩
  ·exact .inr ⟨_,rfl,hc,rfl,(aH HB0.out (aH hE'.below hb)).mono dP⟩
 obtain rfl:v=rv (x,y):=hv
 simp only[zp]
 intro W1 hE hF
 have hc:x<=y/\y<=s.led.field.rows:=hF _ (List.Mem.head _)
 have HB1:=Lib.hid (aH HB0.out (show Ext [] w W1 from hE).below)
 have gJ:=Lib.hid hc
 clear hE hF hc c0 f0 jY n01
 obtain⟨c1,f1,l1⟩:=cells_of_block ((HB1.out.block _ lw).trans HO.out.blk)
 obtain⟨pX,hcs1⟩:=HW.out W1 (HB1.out.mono dP)
 have n10:=hcs1 0 (by simp)
 simp only[List.getElem_cons_zero,List.getElem_cons_succ] at n10
 have n11:=hcs1 1 (by simp)
 simp only[List.getElem_cons_zero,List.getElem_cons_succ] at n11
 clear hcs1
 go_wp2_with fail
 go_end0
 have q0:=gJ.out
 simp only[act,aU,aV,List.getD_cons_zero,List.getD_cons_succ]
 (repeat (first|rw[if_pos (by omega)]|rw[if_neg (by omega)]))
 have uJ:=HO.out.below HB1.out
 exact⟨(((HB1.out.mono dP).setCell pK _).setCell pK _),.inl ⟨rfl,rfl,_,es,uJ.store ((dO).trans dO) (ak (ak (uJ.blk) _) _) rfl rfl⟩⟩
theorem NP (N:Nat) (w:World) (wb:Nat) (s:gV) (V:SV) (es:List KE) (ns:Value) (x y:Int) (hO:gU N w wb s V es) (hn:mF N w ns [x,y]) (hx:0<=x/\x<=9999):Calls Tryz.prog 70 #[.pointer (some ⟨wb,0,none⟩),ns] w (lM N wb (act s .start [x,y]) w):=by
 obtain⟨vt,vn,vw,vu,vr,vh,vk,vs⟩:=V
 have HO:=Lib.hid hO
 have dP:=dm hO
 obtain⟨b,c,rfl,hbN,hcs⟩:=hn
 have lb:b<w.heap.size:=by omega
 have lw:=hO.rows.lt
 have pK:=hO.rows.base
 have HW:Hid (∀W,Below N w W->b<W.heap.size/\ ∀(j:Nat) (h:j<[x,y].length),W.cell? ⟨b,j,none⟩=some (iv [x,y][j])):=Lib.hid (fun W hB=>⟨by have:=hB.size;omega,fun j h=>(World.cell?_of_block (hB.block b hbN)).trans (hcs j h)⟩)
 obtain⟨c0,f0,l0⟩:=cells_of_block hO.blk
 have jY:=hcs 0 (by simp)
 simp only[List.getElem_cons_zero,List.getElem_cons_succ] at jY
 have n01:=hcs 1 (by simp)
 simp only[List.getElem_cons_zero,List.getElem_cons_succ] at n01
 have HB0:Hid (Below w.heap.size w w):=Lib.hid (Below.refl _ _)
 clear hO hcs
 go_enter Tryz.func70,Tryz.ntmps70
 go_wp2_with fail
 refine zg 6 [] none [] ?_
 simp only[zt]
 repeat ((first|refine zd ?_|refine zk ?_);simp only[zp])
 intro W1 hE hF
 have HB1:=Lib.hid (aH HB0.out hE.below)
 clear hE hF c0 f0 jY n01
 obtain⟨c1,f1,l1⟩:=cells_of_block ((HB1.out.block _ lw).trans HO.out.blk)
 obtain⟨pX,hcs1⟩:=HW.out W1 (HB1.out.mono dP)
 have n10:=hcs1 0 (by simp)
 simp only[List.getElem_cons_zero,List.getElem_cons_succ] at n10
 have n11:=hcs1 1 (by simp)
 simp only[List.getElem_cons_zero,List.getElem_cons_succ] at n11
 clear hcs1
 go_wp2_with fail
 refine(uz _ _ _ _ _ (by omega)).mono ?_
 rintro e W2 ⟨hb,⟨hc,rfl⟩|⟨hc,rfl⟩⟩
 rotate_left
 ·simp at hc
  simp only[act,aU,aV,List.getD_cons_zero,List.getD_cons_succ]
  (repeat (first|rw[if_pos (by omega)]|rw[if_neg (by omega)]))
  exact⟨rfl,(aH HB1.out hb).mono dP,.inr ⟨by simp,rfl⟩⟩
 simp at hc
 have HB2:=Lib.hid (aH HB1.out hb)
 have gJ:=Lib.hid hc
 clear hb hc c1 f1 pX n10 n11
 obtain⟨c2,f2,l2⟩:=cells_of_block ((HB2.out.block _ lw).trans HO.out.blk)
 obtain⟨qI,hcs2⟩:=HW.out W2 (HB2.out.mono dP)
 have n20:=hcs2 0 (by simp)
 simp only[List.getElem_cons_zero,List.getElem_cons_succ] at n20
 have n21:=hcs2 1 (by simp)
 simp only[List.getElem_cons_zero,List.getElem_cons_succ] at n21
 clear hcs2
 go_wp2_with fail
 refine zg 8 [] none [] ?_
 simp only[zt]
 repeat ((first|refine zd ?_|refine zk ?_);simp only[zp])
 intro W3 hE hF
 have HB3:=Lib.hid (aH HB2.out hE.below)
 clear hE hF c2 f2 qI n20 n21
 obtain⟨c3,f3,l3⟩:=cells_of_block ((HB3.out.block _ lw).trans HO.out.blk)
 obtain⟨CO,hcs3⟩:=HW.out W3 (HB3.out.mono dP)
 have n30:=hcs3 0 (by simp)
 simp only[List.getElem_cons_zero,List.getElem_cons_succ] at n30
 have n31:=hcs3 1 (by simp)
 simp only[List.getElem_cons_zero,List.getElem_cons_succ] at n31
 clear hcs3
 go_wp2_with fail
 go_end0
 have q0:=gJ.out
 simp only[act,aU,aV,List.getD_cons_zero,List.getD_cons_succ]
 (repeat (first|rw[if_pos (by omega)]|rw[if_neg (by omega)]))
 have uJ:=HO.out.below HB3.out
 exact⟨(((HB3.out.mono dP).setCell pK _).setCell pK _),.inl ⟨rfl,rfl,_,es,uJ.store ((dO).trans dO) (ak (ak (uJ.blk) _) _) rfl rfl⟩⟩
theorem gU.put {N:Nat} {w W:World} {wb:Nat} {s s':gV} {V V':SV} {es es':List KE} (h:gU N w wb s V es) {i:Nat} {r:Row} (hr:(eQ s V es)[i]? =some r) (r':Row) {Ms:List Nat} (hE:Ext Ms w W) (hM: ∀m∈Ms,r.v.ownBlock=some m)
 (ho:W.ownsRow N r'.t r'.size r'.v r'.n r'.xs) (hb:r'.v.ownBlock=r.v.ownBlock∨ ∃k,r'.v.ownBlock=some k/\w.heap.size<=k) {off:Nat} {u:Value} (hblk:(W.setCell ⟨wb,off,none⟩ u).heap[wb]? =some (.cells (bV s' V') 117 (0,0)))
 (hrows:eQ s' V' es'=(eQ s V es).set i r') (hes:es'.map (·.2)=s'.bG.aC):gU N (W.setCell ⟨wb,off,none⟩ u) wb s' V' es':=by
 refine⟨hblk,?_,hes⟩
 rw[hrows]
 have h1:=h.rows.put hr r' hE (fun m hm=> .inr (.inr (hM m hm))) ho (hb.imp id .inr)
 exact h1.keep dO (fun m hm=> .inl (by simpa using hm))
theorem aA {w:World} {base:Nat} {e:TypeId} {size:Nat} {v:Value} {n:Nat} {xs:List Value} (h:w.ownsRow base e size v n xs): ∃o c,v= .slice o n c:=by
 obtain⟨h1,⟨rfl,rfl⟩|⟨g,c,cs,rfl,h3⟩⟩:=h
 ·exact⟨none,0,rfl⟩
 ·exact⟨_,_,rfl⟩
theorem zo (x y z:Int): ∀u∈[iv x,iv y,iv z],u.oneCell'=true:=by simp[Value.oneCell']
theorem Gq (x y z p q:Int): ∀u∈[iv x,iv y,iv z,iv p,iv q],u.oneCell'=true:=by simp[Value.oneCell']
theorem Vu (x y z:Int): ∀u∈[Value.bool true,iv x,iv y,iv z],u.oneCell'=true:=by simp[Value.oneCell']
theorem Ry (x y:Int): ∀u∈[iv x,iv y],u.oneCell'=true:=by simp[Value.oneCell']
theorem one_one (x:Int): ∀u∈[iv x],u.oneCell'=true:=by simp[Value.oneCell']
theorem QT:fD Tryz.prog 27 122 (.agg #[iv 0,iv 0,iv 0,iv 0,iv 0]) 5 40:=⟨Tryz.underlying27,by kernel_rfl,rfl,by omega⟩
theorem Vm:fD Tryz.prog 31 151 (.agg #[iv 0,iv 0,iv 0]) 3 24:=⟨Tryz.underlying31,by kernel_rfl,rfl,by omega⟩
theorem aap:fD Tryz.prog 40 103 (rv (0,0)) 2 16:=⟨Tryz.underlying40,by kernel_rfl,rfl,by omega⟩
theorem aar:fD Tryz.prog 41 36 (.slice none 0 0) 1 24:=⟨Tryz.underlying41,by kernel_rfl,rfl,by omega⟩
theorem Vk:fD Tryz.prog 42 161 (.agg #[.bool false,iv 0,iv 0,iv 0]) 4 32:=⟨Tryz.underlying42,by kernel_rfl,rfl,by omega⟩
theorem Vl:fD Tryz.prog 37 156 (.agg #[iv 0,iv 0,iv 0]) 3 24:=⟨Tryz.underlying37,by kernel_rfl,rfl,by omega⟩
theorem SC (N:Nat) (w:World) (wb:Nat) (s:gV) (V:SV) (es:List KE) (ns:Value) (x y z:Int) (hO:gU N w wb s V es) (hn:mF N w ns [x,y,z]) (hG:Good s):Calls Tryz.prog 74 #[.pointer (some ⟨wb,0,none⟩),ns] w (lM N wb (act s .vP [x,y,z]) w):=by
 obtain⟨vt,vn,vw,vu,vr,vh,vk,vs⟩:=V
 obtain⟨o,cc,rfl⟩: ∃o c,vr= .slice o s.heap.readings.length c:=aA (n:=s.heap.readings.length) (hO.rows.own 4 _ rfl)
 have HO:=Lib.hid hO
 have dP:=dm hO
 obtain⟨b,c,rfl,hbN,hcs⟩:=hn
 have lb:b<w.heap.size:=by omega
 have lw:=hO.rows.lt
 have pK:=hO.rows.base
 have HW:Hid (∀W,Below N w W->b<W.heap.size/\ ∀(j:Nat) (h:j<[x,y,z].length),W.cell? ⟨b,j,none⟩=some (iv [x,y,z][j])):=Lib.hid (fun W hB=>⟨by have:=hB.size;omega,fun j h=>(World.cell?_of_block (hB.block b hbN)).trans (hcs j h)⟩)
 obtain⟨c0,f0,l0⟩:=cells_of_block hO.blk
 have jY:=hcs 0 (by simp)
 simp only[List.getElem_cons_zero,List.getElem_cons_succ] at jY
 have n01:=hcs 1 (by simp)
 simp only[List.getElem_cons_zero,List.getElem_cons_succ] at n01
 have n02:=hcs 2 (by simp)
 simp only[List.getElem_cons_zero,List.getElem_cons_succ] at n02
 have HB0:Hid (Below w.heap.size w w):=Lib.hid (Below.refl _ _)
 have hl4:=hG.heap.1
 have EF:=hG.reads
 clear hO hcs hG
 go_enter Tryz.func74,Tryz.ntmps74
 go_wp2_with fail
 refine(rC x wb s _ w ((HB0.out.block _ lw).trans HO.out.blk) hl4).mono ?_
 rintro e W1 ⟨hb,⟨hc,rfl⟩|⟨hc,rfl⟩⟩
 rotate_left
 ·simp at hc
  simp only[act,aU,aV,List.getD_cons_zero,List.getD_cons_succ]
  (repeat (first|rw[if_pos (by omega)]|rw[if_neg (by omega)]))
  exact⟨rfl,(aH HB0.out hb).mono dP,.inr ⟨by simp,rfl⟩⟩
 simp at hc
 have HB1:=Lib.hid (aH HB0.out hb)
 have gJ:=Lib.hid hc
 clear hb hc c0 f0 jY n01 n02
 obtain⟨c1,f1,l1⟩:=cells_of_block ((HB1.out.block _ lw).trans HO.out.blk)
 obtain⟨pX,hcs1⟩:=HW.out W1 (HB1.out.mono dP)
 have n10:=hcs1 0 (by simp)
 simp only[List.getElem_cons_zero,List.getElem_cons_succ] at n10
 have n11:=hcs1 1 (by simp)
 simp only[List.getElem_cons_zero,List.getElem_cons_succ] at n11
 have n12:=hcs1 2 (by simp)
 simp only[List.getElem_cons_zero,List.getElem_cons_succ] at n12
 clear hcs1
 go_wp2_with fail
 refine zg 8 [] none [] ?_
 simp only[zt]
 repeat ((first|refine zd ?_|refine zk ?_);simp only[zp])
 intro W2 hE hF
 have HB2:=Lib.hid (aH HB1.out hE.below)
 clear hE hF c1 f1 pX n10 n11 n12
 obtain⟨c2,f2,l2⟩:=cells_of_block ((HB2.out.block _ lw).trans HO.out.blk)
 obtain⟨qI,hcs2⟩:=HW.out W2 (HB2.out.mono dP)
 have n20:=hcs2 0 (by simp)
 simp only[List.getElem_cons_zero,List.getElem_cons_succ] at n20
 have n21:=hcs2 1 (by simp)
 simp only[List.getElem_cons_zero,List.getElem_cons_succ] at n21
 have n22:=hcs2 2 (by simp)
 simp only[List.getElem_cons_zero,List.getElem_cons_succ] at n22
 clear hcs2
 go_wp2_with fail
 refine(cu 2 [decide (1000<y),decide (50<z)] W2 (by simp) _ (by simp[bI]) _ _ rfl).mono ?_
 rintro e W3 ⟨hb,⟨hc,rfl⟩|⟨hc,rfl⟩⟩
 rotate_left
 ·simp at hc
  have q0:=gJ.out
  simp only[act,aU,aV,List.getD_cons_zero,List.getD_cons_succ]
  (repeat (first|rw[if_pos (by omega)]|rw[if_neg (by omega)]))
  exact⟨rfl,(aH HB2.out hb).mono dP,.inr ⟨by simp,rfl⟩⟩
 simp at hc
 have HB3:=Lib.hid (aH HB2.out hb)
 have lN:=Lib.hid hc
 clear hb hc c2 f2 qI n20 n21 n22
 obtain⟨c3,f3,l3⟩:=cells_of_block ((HB3.out.block _ lw).trans HO.out.blk)
 obtain⟨CO,hcs3⟩:=HW.out W3 (HB3.out.mono dP)
 have n30:=hcs3 0 (by simp)
 simp only[List.getElem_cons_zero,List.getElem_cons_succ] at n30
 have n31:=hcs3 1 (by simp)
 simp only[List.getElem_cons_zero,List.getElem_cons_succ] at n31
 have n32:=hcs3 2 (by simp)
 simp only[List.getElem_cons_zero,List.getElem_cons_succ] at n32
 clear hcs3
 go_wp2_with fail
 refine(lh _ _ _).mono ?_
 rintro e W4 ⟨hb,⟨hc,rfl⟩|⟨hc,rfl⟩⟩
 rotate_left
 ·simp at hc
  have q0:=gJ.out
  have q1:=lN.out
  simp only[act,aU,aV,List.getD_cons_zero,List.getD_cons_succ]
  (repeat (first|rw[if_pos (by omega)]|rw[if_neg (by omega)]))
  exact⟨rfl,(aH HB3.out hb).mono dP,.inr ⟨by simp,rfl⟩⟩
 simp at hc
 have HB4:=Lib.hid (aH HB3.out hb)
 have qB:=Lib.hid hc
 clear hb hc c3 f3 CO n30 n31 n32
 obtain⟨c4,f4,l4⟩:=cells_of_block ((HB4.out.block _ lw).trans HO.out.blk)
 obtain⟨Jn,ik⟩:=HW.out W4 (HB4.out.mono dP)
 have n40:=ik 0 (by simp)
 simp only[List.getElem_cons_zero,List.getElem_cons_succ] at n40
 have n41:=ik 1 (by simp)
 simp only[List.getElem_cons_zero,List.getElem_cons_succ] at n41
 have n42:=ik 2 (by simp)
 simp only[List.getElem_cons_zero,List.getElem_cons_succ] at n42
 clear ik
 go_wp2_with fail
 obtain⟨Ms,hMs⟩: ∃Ms,Ms=(Value.slice o s.heap.readings.length cc).ownBlock.toList:=⟨_,rfl⟩
 have hO4:=HO.out.below HB4.out
 have hm1:wb∉Ms:=fun h=>hO4.rows.off 4 _ rfl (by rw[hMs] at h;exact Option.mem_toList.1 h)
 have hm2:b∉Ms:=fun h=>by have:=((hO4.rows.own 4 _ rfl).lt b (by rw[hMs] at h;exact Option.mem_toList.1 h)).1;omega
 have qy: ∀m∈Ms,m<W4.heap.size:=fun m h=>((hO4.rows.own 4 _ rfl).lt m (by rw[hMs] at h;exact Option.mem_toList.1 h)).2
 have HM:=Lib.hid hMs
 have iM:=Lib.hid hO4
 clear hMs hO4
 refine zg 19 Ms (some 18) [(17,Spec.slice W4.heap.size #[iv x,iv y,iv z] 156 1),(18,⟨fun _ v=> ∃o2 c2,v= .slice o2 (s.heap.readings.length+1) c2,fun _ v Wx=>Wx.ownsRow N 156 3 v (s.heap.readings.length+1) (aF s.heap.readings++[iv x,iv y,iv z])/\(v.ownBlock=(Value.slice o s.heap.readings.length cc).ownBlock∨ ∃q,v.ownBlock=some q/\W4.heap.size<=q)⟩)] ?_
 simp only[zt]
 repeat ((first|refine zd ?_|refine zk ?_);simp only[zp])
 refine bZ W4.heap.size _ _ 1 (by rfl) (Nat.le_refl _) (by rfl) qy (by simp) (fun W hW=>by go_simp;try rfl) (fun b6=>?_)
 simp only[zp]
 repeat ((first|refine zd ?_|refine zk ?_);simp only[zp])
 refine aP _ (by rfl) (by rfl) (by exact⟨.slice none (s.heap.readings.length+1) 0,none,0,rfl⟩) (fun W6 hE hF=>?_) (fun v Wa Wb ho hE=>?_) (fun v hv=>?_)
 ·have hE':Ext [] W4 W6:=hE
  obtain⟨b',hb',hge,hcc⟩:=hF _ (List.Mem.head _) (by kernel_rfl)
  cases hb'
  have hown6:W6.ownsRow N 156 3 (.slice o s.heap.readings.length cc) s.heap.readings.length (aF s.heap.readings):=ah (Ms:=[]) (iM.out.rows.own 4 _ rfl) hE' (by simp)
  have hsrc:aB 3 W6 (.slice (some ⟨b6,0,none⟩) 1 1) 1 ([iv x,iv y,iv z]):=aB.of_block 3 1 hcc rfl (by decide)
  refine Does.mono (bP Vl (by rfl) (by rfl) hown6 (by rfl) hsrc (zo x y z) (by omega) (by omega) (by have:=hE'.size;have:=HB4.out.size;omega)) ?_
  rintro v' W7 ⟨ho,hgr,hcase⟩
  refine⟨aA ho,⟨ho,?_⟩,⟨hgr.os,hgr.tape,hgr.output,hgr.size,fun b hb hn=>hgr.block b hb (fun e=>hn (by rw[HM.out];exact Option.mem_toList.2 e.symm))⟩⟩
  rcases hcase with h1|h1
  ·exact .inl h1
  ·exact .inr ⟨_,h1,hE'.size⟩
 ·exact⟨ah (Ms:=[]) ho.1 hE (by simp),ho.2⟩
 obtain⟨o7,c7,rfl⟩:=hv
 simp only[zp]
 intro W5 hE hF
 obtain⟨lH,uH⟩:=hF _ (List.Mem.head _)
 have dZ:Ext Ms W4 W5:=hE
 have hbl:=(dZ.block wb iM.out.rows.lt hm1).trans iM.out.blk
 obtain⟨c5,f5,l5⟩:=cells_of_block hbl
 have fV:=Lib.hid (And.intro dZ (And.intro lH (And.intro uH hbl)))
 have uX:Below N w W5:=(HB4.out.mono dP).trans ⟨dZ.os,dZ.tape,dZ.output,dZ.size,fun k hk=>dZ.block k (by have:=HB4.out.size;omega) (fun h=>by have:=((iM.out.rows.own 4 _ rfl).lt k (by rw[HM.out] at h;exact Option.mem_toList.1 h)).1;omega)⟩
 have lQ:=Lib.hid uX
 clear hE hF dZ lH uH hbl uX hm1 hm2 qy c4 f4 Jn n40 n41 n42
 go_wp2_with fail
 go_end0
 have q0:=gJ.out
 have q1:=lN.out
 have q2:=qB.out
 simp only[act,aU,aV,List.getD_cons_zero,List.getD_cons_succ]
 (repeat (first|rw[if_pos (by omega)]|rw[if_neg (by omega)]))
 refine⟨lQ.out.setCell pK _,.inl ⟨rfl,rfl,⟨vt,vn,vw,vu,.slice o7 (s.heap.readings.length+1) c7,vh,vk,vs⟩,es,iM.out.put (i:=4) rfl ⟨156,3,.slice o7 (s.heap.readings.length+1) c7,s.heap.readings.length+1,aF s.heap.readings++[iv x,iv y,iv z]⟩ fV.out.1 (fun m hm=>by rw[HM.out] at hm;exact Option.mem_toList.1 hm) fV.out.2.1 fV.out.2.2.1 (ak fV.out.2.2.2 _) (by simp[eQ,eU,aF]) (iM.out.es)⟩⟩
theorem note_any (N:Nat) (w:World) (wb:Nat) (s:gV) (V:SV) (es:List KE) (ns:Value) (x y z:Int) (hO:gU N w wb s V es) (hn:mF N w ns [x,y,z]) (hG:Good s):Calls Tryz.prog 68 #[.pointer (some ⟨wb,0,none⟩),ns] w (lM N wb (act s .note [x,y,z]) w):=by
 obtain⟨vt,vn,vw,vu,vr,vh,vk,vs⟩:=V
 obtain⟨o,cc,rfl⟩: ∃o c,vn= .slice o s.led.notes.length c:=aA (n:=s.led.notes.length) (hO.rows.own 1 _ rfl)
 have HO:=Lib.hid hO
 have dP:=dm hO
 obtain⟨b,c,rfl,hbN,hcs⟩:=hn
 have lb:b<w.heap.size:=by omega
 have lw:=hO.rows.lt
 have pK:=hO.rows.base
 have HW:Hid (∀W,Below N w W->b<W.heap.size/\ ∀(j:Nat) (h:j<[x,y,z].length),W.cell? ⟨b,j,none⟩=some (iv [x,y,z][j])):=Lib.hid (fun W hB=>⟨by have:=hB.size;omega,fun j h=>(World.cell?_of_block (hB.block b hbN)).trans (hcs j h)⟩)
 obtain⟨c0,f0,l0⟩:=cells_of_block hO.blk
 have jY:=hcs 0 (by simp)
 simp only[List.getElem_cons_zero,List.getElem_cons_succ] at jY
 have n01:=hcs 1 (by simp)
 simp only[List.getElem_cons_zero,List.getElem_cons_succ] at n01
 have n02:=hcs 2 (by simp)
 simp only[List.getElem_cons_zero,List.getElem_cons_succ] at n02
 have HB0:Hid (Below w.heap.size w w):=Lib.hid (Below.refl _ _)
 have EF:=hG.notes
 have hwe:=hG.ai
 clear hO hcs hG
 go_enter Tryz.func68,Tryz.ntmps68
 go_wp2_with fail
 refine zg 10 [] none [] ?_
 simp only[zt]
 repeat ((first|refine zd ?_|refine zk ?_);simp only[zp])
 intro W1 hE hF
 have HB1:=Lib.hid (aH HB0.out hE.below)
 clear hE hF c0 f0 jY n01 n02
 obtain⟨c1,f1,l1⟩:=cells_of_block ((HB1.out.block _ lw).trans HO.out.blk)
 obtain⟨pX,hcs1⟩:=HW.out W1 (HB1.out.mono dP)
 have n10:=hcs1 0 (by simp)
 simp only[List.getElem_cons_zero,List.getElem_cons_succ] at n10
 have n11:=hcs1 1 (by simp)
 simp only[List.getElem_cons_zero,List.getElem_cons_succ] at n11
 have n12:=hcs1 2 (by simp)
 simp only[List.getElem_cons_zero,List.getElem_cons_succ] at n12
 clear hcs1
 go_wp2_with fail
 refine(fG _ _ _).mono ?_
 rintro e W2 ⟨hb,⟨hc,rfl⟩|⟨hc,rfl⟩⟩
 rotate_left
 ·simp at hc
  simp only[act,aU,aV,List.getD_cons_zero,List.getD_cons_succ]
  (repeat (first|rw[if_pos (by omega)]|rw[if_neg (by omega)]))
  exact⟨rfl,(aH HB1.out hb).mono dP,.inr ⟨by simp,rfl⟩⟩
 simp at hc
 have HB2:=Lib.hid (aH HB1.out hb)
 have HS2:=Lib.hid hb
 have gJ:=Lib.hid hc
 clear hb hc c1 f1 pX n10 n11 n12
 obtain⟨c2,f2,l2⟩:=cells_of_block ((HB2.out.block _ lw).trans HO.out.blk)
 obtain⟨qI,hcs2⟩:=HW.out W2 (HB2.out.mono dP)
 have n20:=hcs2 0 (by simp)
 simp only[List.getElem_cons_zero,List.getElem_cons_succ] at n20
 have n21:=hcs2 1 (by simp)
 simp only[List.getElem_cons_zero,List.getElem_cons_succ] at n21
 have n22:=hcs2 2 (by simp)
 simp only[List.getElem_cons_zero,List.getElem_cons_succ] at n22
 clear hcs2
 go_wp2_with fail
 refine RX.dM (fun ps W'=> ¬(y<=z/\z<=2000)/\ps=refusal 2/\Below N w W') 12 [] none [(9,⟨fun _ v=>v=rv (y,z),fun _ _ _=>(y<=z/\z<=2000)⟩),(11,Spec.block W2.heap.size #[iv 0,iv 0,iv 0] 151)] (by rintro ps a1 Wx hdf ⟨h1,rfl,h3⟩;refine⟨hdf,pR (c:=2) h3 ?_ (by decide)⟩;have q0:=gJ.out;simp only[act,aU,aV,List.getD_cons_zero,List.getD_cons_succ];(repeat (first|rw[if_pos (by omega)]|rw[if_neg (by omega)]))) (by as_aux_lemma=>kernel_rfl) (by as_aux_lemma=>kernel_rfl) ?_
 simp only[zt]
 repeat (refine RX.zd ?_;simp only[zp])
 refine RX.aP _ (by rfl) (by rfl) ⟨_,rfl⟩ (fun Wq hE2 hF2=>?_) (fun v Wa Wb ho hE=>ho) (fun v hv=>?_)
 ·have hE':Ext [] W2 Wq:=hE2
  refine RX.bU 121 #[iv y,iv z] (by go_simp;try rfl) ?_
  refine(oW y z Wq).mono ?_
  rintro e w' ⟨hb,⟨hc,rfl⟩|⟨hc,rfl⟩⟩
  ·exact .inl ⟨_,rfl,rfl,hc,Ext.of_below hb⟩
  ·exact .inr ⟨_,rfl,hc,rfl,(aH HB2.out (aH hE'.below hb)).mono dP⟩
 obtain rfl:v=rv (y,z):=hv
 simp only[zp]
 repeat (refine RX.zd ?_;simp only[zp])
 refine RX.gW W2.heap.size _ _ (by rfl) (Nat.le_refl _) (by rfl) (by simp) (by simp) (fun W hW=>by go_simp;try rfl) (fun b9=>?_)
 simp only[zp]
 intro Wb hE hF
 obtain⟨b9',uk,hge,hk9⟩:=hF _ (List.Mem.head _)
 cases uk
 have hc:y<=z/\z<=2000:=hF _ (List.Mem.tail _ (List.Mem.head _))
 have Xa:=Lib.hid (aH HB2.out (show Ext [] W2 Wb from hE).below)
 have lN:=Lib.hid hc
 have oM:=Lib.hid (And.intro (Nat.le_trans HB2.out.size hge) hk9)
 obtain⟨c9,f9,l9⟩:=cells_of_block hk9
 clear hE hF hc hge hk9 c2 f2 qI n20 n21 n22
 go_upto_region 2 with(fail)
 refine dD fun W3 kU=>?_
 have HB3:=Lib.hid (show Below w.heap.size w W3 from by rw[kU];exact(((Xa.out).setCell oM.out.1 _).setCell oM.out.1 _).setCell oM.out.1 _)
 have BH:=Lib.hid (show W3.heap[b9]? =some (.cells #[iv x,iv y,iv z] 151 (0,0)) from by rw[kU];exact ak (ak (ak (oM.out.2) _) _) _)
 have RY:b9<W3.heap.size:=(Array.getElem?_eq_some_iff.1 BH.out).1
 clear kU c9 f9 l9
 obtain⟨c3,f3,l3⟩:=cells_of_block ((HB3.out.block _ lw).trans HO.out.blk)
 obtain⟨CO,hcs3⟩:=HW.out W3 (HB3.out.mono dP)
 have n30:=hcs3 0 (by simp)
 simp only[List.getElem_cons_zero,List.getElem_cons_succ] at n30
 have n31:=hcs3 1 (by simp)
 simp only[List.getElem_cons_zero,List.getElem_cons_succ] at n31
 have n32:=hcs3 2 (by simp)
 simp only[List.getElem_cons_zero,List.getElem_cons_succ] at n32
 clear hcs3
 go_wp2_with fail
 refine(lh _ _ _).mono ?_
 rintro e W4 ⟨hb,⟨hc,rfl⟩|⟨hc,rfl⟩⟩
 rotate_left
 ·simp at hc
  have q0:=gJ.out
  have q1:=lN.out
  simp only[act,aU,aV,List.getD_cons_zero,List.getD_cons_succ]
  (repeat (first|rw[if_pos (by omega)]|rw[if_neg (by omega)]))
  exact⟨rfl,(aH HB3.out hb).mono dP,.inr ⟨by simp,rfl⟩⟩
 simp at hc
 have HB4:=Lib.hid (aH HB3.out hb)
 have Ny:=Lib.hid hb
 have qB:=Lib.hid hc
 clear hb hc c3 f3 CO n30 n31 n32
 obtain⟨c4,f4,l4⟩:=cells_of_block ((HB4.out.block _ lw).trans HO.out.blk)
 obtain⟨Jn,ik⟩:=HW.out W4 (HB4.out.mono dP)
 have n40:=ik 0 (by simp)
 simp only[List.getElem_cons_zero,List.getElem_cons_succ] at n40
 have n41:=ik 1 (by simp)
 simp only[List.getElem_cons_zero,List.getElem_cons_succ] at n41
 have n42:=ik 2 (by simp)
 simp only[List.getElem_cons_zero,List.getElem_cons_succ] at n42
 clear ik
 go_wp2_with fail
 obtain⟨Ms,hMs⟩: ∃Ms,Ms=(Value.slice o s.led.notes.length cc).ownBlock.toList:=⟨_,rfl⟩
 have hO4:=HO.out.below HB4.out
 have hm1:wb∉Ms:=fun h=>hO4.rows.off 1 _ rfl (by rw[hMs] at h;exact Option.mem_toList.1 h)
 have hm2:b∉Ms:=fun h=>by have:=((hO4.rows.own 1 _ rfl).lt b (by rw[hMs] at h;exact Option.mem_toList.1 h)).1;omega
 have qy: ∀m∈Ms,m<W4.heap.size:=fun m h=>((hO4.rows.own 1 _ rfl).lt m (by rw[hMs] at h;exact Option.mem_toList.1 h)).2
 obtain⟨c9,f9,l9⟩:=cells_of_block ((Ny.out.block _ RY).trans BH.out)
 have hm9:b9∉Ms:=fun h=>by have:=((HO.out.rows.own 1 _ rfl).lt b9 (by rw[hMs] at h;exact Option.mem_toList.1 h)).2;have:=oM.out.1;omega
 have HM:=Lib.hid hMs
 have iM:=Lib.hid hO4
 clear hMs hO4
 refine zg 10 Ms (some 9) [(8,Spec.slice W4.heap.size #[iv x,iv y,iv z] 151 1),(9,⟨fun _ v=> ∃o2 c2,v= .slice o2 (s.led.notes.length+1) c2,fun _ v Wx=>Wx.ownsRow N 151 3 v (s.led.notes.length+1) (aF s.led.notes++[iv x,iv y,iv z])/\(v.ownBlock=(Value.slice o s.led.notes.length cc).ownBlock∨ ∃q,v.ownBlock=some q/\W4.heap.size<=q)⟩)] ?_
 simp only[zt]
 repeat ((first|refine zd ?_|refine zk ?_);simp only[zp])
 refine bZ W4.heap.size _ _ 1 (by rfl) (Nat.le_refl _) (by rfl) qy (by simp) (fun W hW=>by go_simp;try rfl) (fun b6=>?_)
 simp only[zp]
 repeat ((first|refine zd ?_|refine zk ?_);simp only[zp])
 refine aP _ (by rfl) (by rfl) (by exact⟨.slice none (s.led.notes.length+1) 0,none,0,rfl⟩) (fun W6 hE hF=>?_) (fun v Wa Wb ho hE=>?_) (fun v hv=>?_)
 ·have hE':Ext [] W4 W6:=hE
  obtain⟨b',hb',hge,hcc⟩:=hF _ (List.Mem.head _) (by kernel_rfl)
  cases hb'
  have hown6:W6.ownsRow N 151 3 (.slice o s.led.notes.length cc) s.led.notes.length (aF s.led.notes):=ah (Ms:=[]) (iM.out.rows.own 1 _ rfl) hE' (by simp)
  have hsrc:aB 3 W6 (.slice (some ⟨b6,0,none⟩) 1 1) 1 ([iv x,iv y,iv z]):=aB.of_block 3 1 hcc rfl (by decide)
  refine Does.mono (bP Vm (by rfl) (by rfl) hown6 (by rfl) hsrc (zo x y z) (by omega) (by omega) (by have:=hE'.size;have:=HB4.out.size;omega)) ?_
  rintro v' W7 ⟨ho,hgr,hcase⟩
  refine⟨aA ho,⟨ho,?_⟩,⟨hgr.os,hgr.tape,hgr.output,hgr.size,fun b hb hn=>hgr.block b hb (fun e=>hn (by rw[HM.out];exact Option.mem_toList.2 e.symm))⟩⟩
  rcases hcase with h1|h1
  ·exact .inl h1
  ·exact .inr ⟨_,h1,hE'.size⟩
 ·exact⟨ah (Ms:=[]) ho.1 hE (by simp),ho.2⟩
 obtain⟨o7,c7,rfl⟩:=hv
 simp only[zp]
 intro W5 hE hF
 obtain⟨lH,uH⟩:=hF _ (List.Mem.head _)
 have dZ:Ext Ms W4 W5:=hE
 have hbl:=(dZ.block wb iM.out.rows.lt hm1).trans iM.out.blk
 obtain⟨c5,f5,l5⟩:=cells_of_block hbl
 have fV:=Lib.hid (And.intro dZ (And.intro lH (And.intro uH hbl)))
 have uX:Below N w W5:=(HB4.out.mono dP).trans ⟨dZ.os,dZ.tape,dZ.output,dZ.size,fun k hk=>dZ.block k (by have:=HB4.out.size;omega) (fun h=>by have:=((iM.out.rows.own 1 _ rfl).lt k (by rw[HM.out] at h;exact Option.mem_toList.1 h)).1;omega)⟩
 have lQ:=Lib.hid uX
 clear hE hF dZ lH uH hbl uX hm1 hm2 qy c4 f4 Jn n40 n41 n42
 go_wp2_with fail
 go_end0
 have q0:=gJ.out
 have q1:=lN.out
 have q2:=qB.out
 simp only[act,aU,aV,List.getD_cons_zero,List.getD_cons_succ]
 (repeat (first|rw[if_pos (by omega)]|rw[if_neg (by omega)]))
 refine⟨lQ.out.setCell pK _,.inl ⟨rfl,rfl,⟨vt,.slice o7 (s.led.notes.length+1) c7,vw,vu,vr,vh,vk,vs⟩,es,iM.out.put (i:=1) rfl ⟨151,3,.slice o7 (s.led.notes.length+1) c7,s.led.notes.length+1,aF s.led.notes++[iv x,iv y,iv z]⟩ fV.out.1 (fun m hm=>by rw[HM.out] at hm;exact Option.mem_toList.1 hm) fV.out.2.1 fV.out.2.2.1 (ak fV.out.2.2.2 _) (by simp[eQ,jl,aF]) (iM.out.es)⟩⟩
theorem D5 (N:Nat) (w:World) (wb:Nat) (s:gV) (V:SV) (es:List KE) (ns:Value) (x y z p q:Int) (hO:gU N w wb s V es) (hn:mF N w ns [x,y,z,p,q]) (hG:Good s) (hyz:y<z):Calls Tryz.prog 63 #[.pointer (some ⟨wb,0,none⟩),ns] w (lM N wb (act s .tally [x,y,z,p,q]) w):=by
 obtain⟨vt,vn,vw,vu,vr,vh,vk,vs⟩:=V
 obtain⟨o,cc,rfl⟩: ∃o c,vt= .slice o s.led.field.ae.length c:=aA (n:=s.led.field.ae.length) (hO.rows.own 0 _ rfl)
 have HO:=Lib.hid hO
 have dP:=dm hO
 obtain⟨b,c,rfl,hbN,hcs⟩:=hn
 have lb:b<w.heap.size:=by omega
 have lw:=hO.rows.lt
 have pK:=hO.rows.base
 have HW:Hid (∀W,Below N w W->b<W.heap.size/\ ∀(j:Nat) (h:j<[x,y,z,p,q].length),W.cell? ⟨b,j,none⟩=some (iv [x,y,z,p,q][j])):=Lib.hid (fun W hB=>⟨by have:=hB.size;omega,fun j h=>(World.cell?_of_block (hB.block b hbN)).trans (hcs j h)⟩)
 obtain⟨c0,f0,l0⟩:=cells_of_block hO.blk
 have jY:=hcs 0 (by simp)
 simp only[List.getElem_cons_zero,List.getElem_cons_succ] at jY
 have n01:=hcs 1 (by simp)
 simp only[List.getElem_cons_zero,List.getElem_cons_succ] at n01
 have n02:=hcs 2 (by simp)
 simp only[List.getElem_cons_zero,List.getElem_cons_succ] at n02
 have n03:=hcs 3 (by simp)
 simp only[List.getElem_cons_zero,List.getElem_cons_succ] at n03
 have n04:=hcs 4 (by simp)
 simp only[List.getElem_cons_zero,List.getElem_cons_succ] at n04
 have HB0:Hid (Below w.heap.size w w):=Lib.hid (Below.refl _ _)
 have EF:=hG.yz
 have hwe:=hG.ai
 have gJ:=Lib.hid hyz
 clear hO hcs hG
 go_enter Tryz.func63,Tryz.ntmps63
 go_wp2_with fail
 refine zg 7 [] none [] ?_
 simp only[zt]
 repeat ((first|refine zd ?_|refine zk ?_);simp only[zp])
 intro W1 hE hF
 have HB1:=Lib.hid (aH HB0.out hE.below)
 clear hE hF c0 f0 jY n01 n02 n03 n04
 obtain⟨c1,f1,l1⟩:=cells_of_block ((HB1.out.block _ lw).trans HO.out.blk)
 obtain⟨pX,hcs1⟩:=HW.out W1 (HB1.out.mono dP)
 have n10:=hcs1 0 (by simp)
 simp only[List.getElem_cons_zero,List.getElem_cons_succ] at n10
 have n11:=hcs1 1 (by simp)
 simp only[List.getElem_cons_zero,List.getElem_cons_succ] at n11
 have n12:=hcs1 2 (by simp)
 simp only[List.getElem_cons_zero,List.getElem_cons_succ] at n12
 have n13:=hcs1 3 (by simp)
 simp only[List.getElem_cons_zero,List.getElem_cons_succ] at n13
 have n14:=hcs1 4 (by simp)
 simp only[List.getElem_cons_zero,List.getElem_cons_succ] at n14
 clear hcs1
 go_wp2_with fail
 refine(fG _ _ _).mono ?_
 rintro e W2 ⟨hb,⟨hc,rfl⟩|⟨hc,rfl⟩⟩
 rotate_left
 ·simp at hc
  have q0:=gJ.out
  simp only[act,aU,aV,List.getD_cons_zero,List.getD_cons_succ]
  (repeat (first|rw[if_pos (by omega)]|rw[if_neg (by omega)]))
  exact⟨rfl,(aH HB1.out hb).mono dP,.inr ⟨by simp,rfl⟩⟩
 simp at hc
 have HB2:=Lib.hid (aH HB1.out hb)
 have HS2:=Lib.hid hb
 have lN:=Lib.hid hc
 clear hb hc c1 f1 pX n10 n11 n12 n13 n14
 obtain⟨c2,f2,l2⟩:=cells_of_block ((HB2.out.block _ lw).trans HO.out.blk)
 obtain⟨qI,hcs2⟩:=HW.out W2 (HB2.out.mono dP)
 have n20:=hcs2 0 (by simp)
 simp only[List.getElem_cons_zero,List.getElem_cons_succ] at n20
 have n21:=hcs2 1 (by simp)
 simp only[List.getElem_cons_zero,List.getElem_cons_succ] at n21
 have n22:=hcs2 2 (by simp)
 simp only[List.getElem_cons_zero,List.getElem_cons_succ] at n22
 have n23:=hcs2 3 (by simp)
 simp only[List.getElem_cons_zero,List.getElem_cons_succ] at n23
 have n24:=hcs2 4 (by simp)
 simp only[List.getElem_cons_zero,List.getElem_cons_succ] at n24
 clear hcs2
 go_wp2_with fail
 refine zg 11 [] none [] ?_
 simp only[zt]
 repeat ((first|refine zd ?_|refine zk ?_);simp only[zp])
 intro W3 hE hF
 have HB3:=Lib.hid (aH HB2.out hE.below)
 clear hE hF c2 f2 qI n20 n21 n22 n23 n24
 obtain⟨c3,f3,l3⟩:=cells_of_block ((HB3.out.block _ lw).trans HO.out.blk)
 obtain⟨CO,hcs3⟩:=HW.out W3 (HB3.out.mono dP)
 have n30:=hcs3 0 (by simp)
 simp only[List.getElem_cons_zero,List.getElem_cons_succ] at n30
 have n31:=hcs3 1 (by simp)
 simp only[List.getElem_cons_zero,List.getElem_cons_succ] at n31
 have n32:=hcs3 2 (by simp)
 simp only[List.getElem_cons_zero,List.getElem_cons_succ] at n32
 have n33:=hcs3 3 (by simp)
 simp only[List.getElem_cons_zero,List.getElem_cons_succ] at n33
 have n34:=hcs3 4 (by simp)
 simp only[List.getElem_cons_zero,List.getElem_cons_succ] at n34
 clear hcs3
 go_wp2_with fail
 clear hyz
 refine(fG _ _ _).mono ?_
 rintro e W4 ⟨hb,⟨hc,rfl⟩|⟨hc,rfl⟩⟩
 rotate_left
 ·simp at hc
  have q0:=gJ.out
  have q1:=lN.out
  simp only[act,aU,aV,List.getD_cons_zero,List.getD_cons_succ]
  (repeat (first|rw[if_pos (by omega)]|rw[if_neg (by omega)]))
  exact⟨rfl,(aH HB3.out hb).mono dP,.inr ⟨by simp,rfl⟩⟩
 simp at hc
 have HB4:=Lib.hid (aH HB3.out hb)
 have Ny:=Lib.hid hb
 have qB:=Lib.hid hc
 clear hb hc c3 f3 CO n30 n31 n32 n33 n34
 obtain⟨c4,f4,l4⟩:=cells_of_block ((HB4.out.block _ lw).trans HO.out.blk)
 obtain⟨Jn,ik⟩:=HW.out W4 (HB4.out.mono dP)
 have n40:=ik 0 (by simp)
 simp only[List.getElem_cons_zero,List.getElem_cons_succ] at n40
 have n41:=ik 1 (by simp)
 simp only[List.getElem_cons_zero,List.getElem_cons_succ] at n41
 have n42:=ik 2 (by simp)
 simp only[List.getElem_cons_zero,List.getElem_cons_succ] at n42
 have n43:=ik 3 (by simp)
 simp only[List.getElem_cons_zero,List.getElem_cons_succ] at n43
 have n44:=ik 4 (by simp)
 simp only[List.getElem_cons_zero,List.getElem_cons_succ] at n44
 clear ik
 go_wp2_with fail
 refine zg 6 [] none [] ?_
 simp only[zt]
 repeat ((first|refine zd ?_|refine zk ?_);simp only[zp])
 intro W5 hE hF
 have lD:=Lib.hid (aH HB4.out hE.below)
 clear hE hF c4 f4 Jn n40 n41 n42 n43 n44
 obtain⟨c5,f5,l5⟩:=cells_of_block ((lD.out.block _ lw).trans HO.out.blk)
 obtain⟨Yf,nT⟩:=HW.out W5 (lD.out.mono dP)
 have n50:=nT 0 (by simp)
 simp only[List.getElem_cons_zero,List.getElem_cons_succ] at n50
 have n51:=nT 1 (by simp)
 simp only[List.getElem_cons_zero,List.getElem_cons_succ] at n51
 have n52:=nT 2 (by simp)
 simp only[List.getElem_cons_zero,List.getElem_cons_succ] at n52
 have n53:=nT 3 (by simp)
 simp only[List.getElem_cons_zero,List.getElem_cons_succ] at n53
 have n54:=nT 4 (by simp)
 simp only[List.getElem_cons_zero,List.getElem_cons_succ] at n54
 clear nT
 go_wp2_with fail
 refine(cu 2 [decide (z<y)] W5 (by simp) _ (by simp[bI]) _ _ rfl).mono ?_
 rintro e W6 ⟨hb,⟨hc,rfl⟩|⟨hc,rfl⟩⟩
 rotate_left
 ·simp at hc
  have q0:=gJ.out
  have q1:=lN.out
  have q2:=qB.out
  (exfalso;omega)
 simp at hc
 have lT:=Lib.hid (aH lD.out hb)
 have HS6:=Lib.hid hb
 have AV:=Lib.hid hc
 clear hb hc c5 f5 Yf n50 n51 n52 n53 n54
 obtain⟨c6,f6,l6⟩:=cells_of_block ((lT.out.block _ lw).trans HO.out.blk)
 obtain⟨Ye,nS⟩:=HW.out W6 (lT.out.mono dP)
 have n60:=nS 0 (by simp)
 simp only[List.getElem_cons_zero,List.getElem_cons_succ] at n60
 have n61:=nS 1 (by simp)
 simp only[List.getElem_cons_zero,List.getElem_cons_succ] at n61
 have n62:=nS 2 (by simp)
 simp only[List.getElem_cons_zero,List.getElem_cons_succ] at n62
 have n63:=nS 3 (by simp)
 simp only[List.getElem_cons_zero,List.getElem_cons_succ] at n63
 have n64:=nS 4 (by simp)
 simp only[List.getElem_cons_zero,List.getElem_cons_succ] at n64
 clear nS
 go_wp2_with fail
 refine RX.dM (fun ps W'=> ¬(p<=q/\q<=s.led.field.rows)/\ps=refusal 2/\Below N w W') 19 [] none [(16,⟨fun _ v=>v=rv (p,q),fun _ _ _=>(p<=q/\q<=s.led.field.rows)⟩),(18,Spec.block W6.heap.size #[iv 0,iv 0,iv 0,iv 0,iv 0] 122)] (by rintro ps a1 Wx hdf ⟨h1,rfl,h3⟩;refine⟨hdf,pR (c:=2) h3 ?_ (by decide)⟩;have q0:=gJ.out;have q1:=lN.out;have q2:=qB.out;have q3:=AV.out;simp only[act,aU,aV,List.getD_cons_zero,List.getD_cons_succ];(repeat (first|rw[if_pos (by omega)]|rw[if_neg (by omega)]))) (by as_aux_lemma=>kernel_rfl) (by as_aux_lemma=>kernel_rfl) ?_
 simp only[zt]
 repeat (refine RX.zd ?_;simp only[zp])
 refine RX.aP _ (by rfl) (by rfl) ⟨_,rfl⟩ (fun Wq hE2 hF2=>?_) (fun v Wa Wb ho hE=>ho) (fun v hv=>?_)
 ·have hE':Ext [] W6 Wq:=hE2
  refine RX.bU 118 #[.pointer (some ⟨wb,0,none⟩),iv p,iv q] (by go_simp;try rfl) ?_
  refine(ou p q wb s _ Wq ((hE'.block _ (Nat.lt_of_lt_of_le lw lT.out.size) (by simp)).trans ((lT.out.block _ lw).trans HO.out.blk))).mono ?_
  rintro e w' ⟨hb,⟨hc,rfl⟩|⟨hc,rfl⟩⟩
  ·exact .inl ⟨_,rfl,rfl,hc,Ext.of_below hb⟩
  ·exact .inr ⟨_,rfl,hc,rfl,(aH lT.out (aH hE'.below hb)).mono dP⟩
 obtain rfl:v=rv (p,q):=hv
 simp only[zp]
 repeat (refine RX.zd ?_;simp only[zp])
 refine RX.gW W6.heap.size _ _ (by rfl) (Nat.le_refl _) (by rfl) (by simp) (by simp) (fun W hW=>by go_simp;try rfl) (fun b9=>?_)
 simp only[zp]
 intro Wb hE hF
 obtain⟨b9',uk,hge,hk9⟩:=hF _ (List.Mem.head _)
 cases uk
 have hc:p<=q/\q<=s.led.field.rows:=hF _ (List.Mem.tail _ (List.Mem.head _))
 have Xa:=Lib.hid (aH lT.out (show Ext [] W6 Wb from hE).below)
 have Nz:=Lib.hid hc
 have oM:=Lib.hid (And.intro (Nat.le_trans lT.out.size hge) hk9)
 obtain⟨c9,f9,l9⟩:=cells_of_block hk9
 clear hE hF hc hge hk9 c6 f6 Ye n60 n61 n62 n63 n64
 go_upto_region 5 with(fail)
 refine dD fun W7 kU=>?_
 have yC:=Lib.hid (show Below w.heap.size w W7 from by rw[kU];exact(((((Xa.out).setCell oM.out.1 _).setCell oM.out.1 _).setCell oM.out.1 _).setCell oM.out.1 _).setCell oM.out.1 _)
 have BH:=Lib.hid (show W7.heap[b9]? =some (.cells #[iv x,iv y,iv z,iv p,iv q] 122 (0,0)) from by rw[kU];exact ak (ak (ak (ak (ak (oM.out.2) _) _) _) _) _)
 have RY:b9<W7.heap.size:=(Array.getElem?_eq_some_iff.1 BH.out).1
 clear kU c9 f9 l9
 obtain⟨c7,f7,l7⟩:=cells_of_block ((yC.out.block _ lw).trans HO.out.blk)
 obtain⟨Yd,nR⟩:=HW.out W7 (yC.out.mono dP)
 have n70:=nR 0 (by simp)
 simp only[List.getElem_cons_zero,List.getElem_cons_succ] at n70
 have n71:=nR 1 (by simp)
 simp only[List.getElem_cons_zero,List.getElem_cons_succ] at n71
 have n72:=nR 2 (by simp)
 simp only[List.getElem_cons_zero,List.getElem_cons_succ] at n72
 have n73:=nR 3 (by simp)
 simp only[List.getElem_cons_zero,List.getElem_cons_succ] at n73
 have n74:=nR 4 (by simp)
 simp only[List.getElem_cons_zero,List.getElem_cons_succ] at n74
 clear nR
 go_wp2_with fail
 refine(lh _ _ _).mono ?_
 rintro e W8 ⟨hb,⟨hc,rfl⟩|⟨hc,rfl⟩⟩
 rotate_left
 ·simp at hc
  have q0:=gJ.out
  have q1:=lN.out
  have q2:=qB.out
  have q3:=AV.out
  have q4:=Nz.out
  simp only[act,aU,aV,List.getD_cons_zero,List.getD_cons_succ]
  (repeat (first|rw[if_pos (by omega)]|rw[if_neg (by omega)]))
  exact⟨rfl,(aH yC.out hb).mono dP,.inr ⟨by simp,rfl⟩⟩
 simp at hc
 have lQ:=Lib.hid (aH yC.out hb)
 have HS8:=Lib.hid hb
 have ZC:=Lib.hid hc
 clear hb hc c7 f7 Yd n70 n71 n72 n73 n74
 obtain⟨c8,f8,l8⟩:=cells_of_block ((lQ.out.block _ lw).trans HO.out.blk)
 obtain⟨lb8,xq⟩:=HW.out W8 (lQ.out.mono dP)
 have n80:=xq 0 (by simp)
 simp only[List.getElem_cons_zero,List.getElem_cons_succ] at n80
 have n81:=xq 1 (by simp)
 simp only[List.getElem_cons_zero,List.getElem_cons_succ] at n81
 have n82:=xq 2 (by simp)
 simp only[List.getElem_cons_zero,List.getElem_cons_succ] at n82
 have n83:=xq 3 (by simp)
 simp only[List.getElem_cons_zero,List.getElem_cons_succ] at n83
 have n84:=xq 4 (by simp)
 simp only[List.getElem_cons_zero,List.getElem_cons_succ] at n84
 clear xq
 go_wp2_with fail
 obtain⟨Ms,hMs⟩: ∃Ms,Ms=(Value.slice o s.led.field.ae.length cc).ownBlock.toList:=⟨_,rfl⟩
 have zU:=HO.out.below lQ.out
 have hm1:wb∉Ms:=fun h=>zU.rows.off 0 _ rfl (by rw[hMs] at h;exact Option.mem_toList.1 h)
 have hm2:b∉Ms:=fun h=>by have:=((zU.rows.own 0 _ rfl).lt b (by rw[hMs] at h;exact Option.mem_toList.1 h)).1;omega
 have qy: ∀m∈Ms,m<W8.heap.size:=fun m h=>((zU.rows.own 0 _ rfl).lt m (by rw[hMs] at h;exact Option.mem_toList.1 h)).2
 obtain⟨c9,f9,l9⟩:=cells_of_block ((HS8.out.block _ RY).trans BH.out)
 have hm9:b9∉Ms:=fun h=>by have:=((HO.out.rows.own 0 _ rfl).lt b9 (by rw[hMs] at h;exact Option.mem_toList.1 h)).2;have:=oM.out.1;omega
 have HM:=Lib.hid hMs
 have iM:=Lib.hid zU
 clear hMs zU
 refine zg 8 Ms (some 7) [(6,Spec.slice W8.heap.size #[iv x,iv y,iv z,iv p,iv q] 122 1),(7,⟨fun _ v=> ∃o2 c2,v= .slice o2 (s.led.field.ae.length+1) c2,fun _ v Wx=>Wx.ownsRow N 122 5 v (s.led.field.ae.length+1) (bM s.led.field.ae++[iv x,iv y,iv z,iv p,iv q])/\(v.ownBlock=(Value.slice o s.led.field.ae.length cc).ownBlock∨ ∃q,v.ownBlock=some q/\W8.heap.size<=q)⟩)] ?_
 simp only[zt]
 repeat ((first|refine zd ?_|refine zk ?_);simp only[zp])
 refine bZ W8.heap.size _ _ 1 (by rfl) (Nat.le_refl _) (by rfl) qy (by simp) (fun W hW=>by go_simp;try rfl) (fun b6=>?_)
 simp only[zp]
 repeat ((first|refine zd ?_|refine zk ?_);simp only[zp])
 refine aP _ (by rfl) (by rfl) (by exact⟨.slice none (s.led.field.ae.length+1) 0,none,0,rfl⟩) (fun W6 hE hF=>?_) (fun v Wa Wb ho hE=>?_) (fun v hv=>?_)
 ·have hE':Ext [] W8 W6:=hE
  obtain⟨b',hb',hge,hcc⟩:=hF _ (List.Mem.head _) (by kernel_rfl)
  cases hb'
  have hown6:W6.ownsRow N 122 5 (.slice o s.led.field.ae.length cc) s.led.field.ae.length (bM s.led.field.ae):=ah (Ms:=[]) (iM.out.rows.own 0 _ rfl) hE' (by simp)
  have hsrc:aB 5 W6 (.slice (some ⟨b6,0,none⟩) 1 1) 1 ([iv x,iv y,iv z,iv p,iv q]):=aB.of_block 5 1 hcc rfl (by decide)
  refine Does.mono (bP QT (by rfl) (by rfl) hown6 (by rfl) hsrc (Gq x y z p q) (by omega) (by omega) (by have:=hE'.size;have:=lQ.out.size;omega)) ?_
  rintro v' W7 ⟨ho,hgr,hcase⟩
  refine⟨aA ho,⟨ho,?_⟩,⟨hgr.os,hgr.tape,hgr.output,hgr.size,fun b hb hn=>hgr.block b hb (fun e=>hn (by rw[HM.out];exact Option.mem_toList.2 e.symm))⟩⟩
  rcases hcase with h1|h1
  ·exact .inl h1
  ·exact .inr ⟨_,h1,hE'.size⟩
 ·exact⟨ah (Ms:=[]) ho.1 hE (by simp),ho.2⟩
 obtain⟨o7,c7,rfl⟩:=hv
 simp only[zp]
 intro W9 hE hF
 obtain⟨lH,uH⟩:=hF _ (List.Mem.head _)
 have dZ:Ext Ms W8 W9:=hE
 have hbl:=(dZ.block wb iM.out.rows.lt hm1).trans iM.out.blk
 obtain⟨c9,f9,l9⟩:=cells_of_block hbl
 have fV:=Lib.hid (And.intro dZ (And.intro lH (And.intro uH hbl)))
 have uX:Below N w W9:=(lQ.out.mono dP).trans ⟨dZ.os,dZ.tape,dZ.output,dZ.size,fun k hk=>dZ.block k (by have:=lQ.out.size;omega) (fun h=>by have:=((iM.out.rows.own 0 _ rfl).lt k (by rw[HM.out] at h;exact Option.mem_toList.1 h)).1;omega)⟩
 have lQ:=Lib.hid uX
 clear hE hF dZ lH uH hbl uX hm1 hm2 qy c8 f8 lb8 n80 n81 n82 n83 n84
 go_wp2_with fail
 go_end0
 have q0:=gJ.out
 have q1:=lN.out
 have q2:=qB.out
 have q3:=AV.out
 have q4:=Nz.out
 have q5:=ZC.out
 simp only[act,aU,aV,List.getD_cons_zero,List.getD_cons_succ]
 (repeat (first|rw[if_pos (by omega)]|rw[if_neg (by omega)]))
 refine⟨lQ.out.setCell pK _,.inl ⟨rfl,rfl,⟨.slice o7 (s.led.field.ae.length+1) c7,vn,vw,vu,vr,vh,vk,vs⟩,es,iM.out.put (i:=0) rfl ⟨122,5,.slice o7 (s.led.field.ae.length+1) c7,s.led.field.ae.length+1,bM s.led.field.ae++[iv x,iv y,iv z,iv p,iv q]⟩ fV.out.1 (fun m hm=>by rw[HM.out] at hm;exact Option.mem_toList.1 hm) fV.out.2.1 fV.out.2.2.1 (ak fV.out.2.2.2 _) (by simp[eQ,jw,bM]) (iM.out.es)⟩⟩
theorem D6 (N:Nat) (w:World) (wb:Nat) (s:gV) (V:SV) (es:List KE) (ns:Value) (x y z p q:Int) (hO:gU N w wb s V es) (hn:mF N w ns [x,y,z,p,q]) (hG:Good s) (hyz:z<=y):Calls Tryz.prog 63 #[.pointer (some ⟨wb,0,none⟩),ns] w (lM N wb (act s .tally [x,y,z,p,q]) w):=by
 obtain⟨vt,vn,vw,vu,vr,vh,vk,vs⟩:=V
 obtain⟨o,cc,rfl⟩: ∃o c,vt= .slice o s.led.field.ae.length c:=aA (n:=s.led.field.ae.length) (hO.rows.own 0 _ rfl)
 have HO:=Lib.hid hO
 have dP:=dm hO
 obtain⟨b,c,rfl,hbN,hcs⟩:=hn
 have lb:b<w.heap.size:=by omega
 have lw:=hO.rows.lt
 have pK:=hO.rows.base
 have HW:Hid (∀W,Below N w W->b<W.heap.size/\ ∀(j:Nat) (h:j<[x,y,z,p,q].length),W.cell? ⟨b,j,none⟩=some (iv [x,y,z,p,q][j])):=Lib.hid (fun W hB=>⟨by have:=hB.size;omega,fun j h=>(World.cell?_of_block (hB.block b hbN)).trans (hcs j h)⟩)
 obtain⟨c0,f0,l0⟩:=cells_of_block hO.blk
 have jY:=hcs 0 (by simp)
 simp only[List.getElem_cons_zero,List.getElem_cons_succ] at jY
 have n01:=hcs 1 (by simp)
 simp only[List.getElem_cons_zero,List.getElem_cons_succ] at n01
 have n02:=hcs 2 (by simp)
 simp only[List.getElem_cons_zero,List.getElem_cons_succ] at n02
 have n03:=hcs 3 (by simp)
 simp only[List.getElem_cons_zero,List.getElem_cons_succ] at n03
 have n04:=hcs 4 (by simp)
 simp only[List.getElem_cons_zero,List.getElem_cons_succ] at n04
 have HB0:Hid (Below w.heap.size w w):=Lib.hid (Below.refl _ _)
 have EF:=hG.yz
 have hwe:=hG.ai
 have gJ:=Lib.hid hyz
 clear hO hcs hG
 go_enter Tryz.func63,Tryz.ntmps63
 go_wp2_with fail
 refine zg 7 [] none [] ?_
 simp only[zt]
 repeat ((first|refine zd ?_|refine zk ?_);simp only[zp])
 intro W1 hE hF
 have HB1:=Lib.hid (aH HB0.out hE.below)
 clear hE hF c0 f0 jY n01 n02 n03 n04
 obtain⟨c1,f1,l1⟩:=cells_of_block ((HB1.out.block _ lw).trans HO.out.blk)
 obtain⟨pX,hcs1⟩:=HW.out W1 (HB1.out.mono dP)
 have n10:=hcs1 0 (by simp)
 simp only[List.getElem_cons_zero,List.getElem_cons_succ] at n10
 have n11:=hcs1 1 (by simp)
 simp only[List.getElem_cons_zero,List.getElem_cons_succ] at n11
 have n12:=hcs1 2 (by simp)
 simp only[List.getElem_cons_zero,List.getElem_cons_succ] at n12
 have n13:=hcs1 3 (by simp)
 simp only[List.getElem_cons_zero,List.getElem_cons_succ] at n13
 have n14:=hcs1 4 (by simp)
 simp only[List.getElem_cons_zero,List.getElem_cons_succ] at n14
 clear hcs1
 go_wp2_with fail
 refine(fG _ _ _).mono ?_
 rintro e W2 ⟨hb,⟨hc,rfl⟩|⟨hc,rfl⟩⟩
 rotate_left
 ·simp at hc
  have q0:=gJ.out
  simp only[act,aU,aV,List.getD_cons_zero,List.getD_cons_succ]
  (repeat (first|rw[if_pos (by omega)]|rw[if_neg (by omega)]))
  exact⟨rfl,(aH HB1.out hb).mono dP,.inr ⟨by simp,rfl⟩⟩
 simp at hc
 have HB2:=Lib.hid (aH HB1.out hb)
 have HS2:=Lib.hid hb
 have lN:=Lib.hid hc
 clear hb hc c1 f1 pX n10 n11 n12 n13 n14
 obtain⟨c2,f2,l2⟩:=cells_of_block ((HB2.out.block _ lw).trans HO.out.blk)
 obtain⟨qI,hcs2⟩:=HW.out W2 (HB2.out.mono dP)
 have n20:=hcs2 0 (by simp)
 simp only[List.getElem_cons_zero,List.getElem_cons_succ] at n20
 have n21:=hcs2 1 (by simp)
 simp only[List.getElem_cons_zero,List.getElem_cons_succ] at n21
 have n22:=hcs2 2 (by simp)
 simp only[List.getElem_cons_zero,List.getElem_cons_succ] at n22
 have n23:=hcs2 3 (by simp)
 simp only[List.getElem_cons_zero,List.getElem_cons_succ] at n23
 have n24:=hcs2 4 (by simp)
 simp only[List.getElem_cons_zero,List.getElem_cons_succ] at n24
 clear hcs2
 go_wp2_with fail
 refine zg 11 [] none [] ?_
 simp only[zt]
 repeat ((first|refine zd ?_|refine zk ?_);simp only[zp])
 intro W3 hE hF
 have HB3:=Lib.hid (aH HB2.out hE.below)
 clear hE hF c2 f2 qI n20 n21 n22 n23 n24
 obtain⟨c3,f3,l3⟩:=cells_of_block ((HB3.out.block _ lw).trans HO.out.blk)
 obtain⟨CO,hcs3⟩:=HW.out W3 (HB3.out.mono dP)
 have n30:=hcs3 0 (by simp)
 simp only[List.getElem_cons_zero,List.getElem_cons_succ] at n30
 have n31:=hcs3 1 (by simp)
 simp only[List.getElem_cons_zero,List.getElem_cons_succ] at n31
 have n32:=hcs3 2 (by simp)
 simp only[List.getElem_cons_zero,List.getElem_cons_succ] at n32
 have n33:=hcs3 3 (by simp)
 simp only[List.getElem_cons_zero,List.getElem_cons_succ] at n33
 have n34:=hcs3 4 (by simp)
 simp only[List.getElem_cons_zero,List.getElem_cons_succ] at n34
 clear hcs3
 go_wp2_with fail
 clear hyz
 refine(fG _ _ _).mono ?_
 rintro e W4 ⟨hb,⟨hc,rfl⟩|⟨hc,rfl⟩⟩
 rotate_left
 ·simp at hc
  have q0:=gJ.out
  have q1:=lN.out
  simp only[act,aU,aV,List.getD_cons_zero,List.getD_cons_succ]
  (repeat (first|rw[if_pos (by omega)]|rw[if_neg (by omega)]))
  exact⟨rfl,(aH HB3.out hb).mono dP,.inr ⟨by simp,rfl⟩⟩
 simp at hc
 have HB4:=Lib.hid (aH HB3.out hb)
 have Ny:=Lib.hid hb
 have qB:=Lib.hid hc
 clear hb hc c3 f3 CO n30 n31 n32 n33 n34
 obtain⟨c4,f4,l4⟩:=cells_of_block ((HB4.out.block _ lw).trans HO.out.blk)
 obtain⟨Jn,ik⟩:=HW.out W4 (HB4.out.mono dP)
 have n40:=ik 0 (by simp)
 simp only[List.getElem_cons_zero,List.getElem_cons_succ] at n40
 have n41:=ik 1 (by simp)
 simp only[List.getElem_cons_zero,List.getElem_cons_succ] at n41
 have n42:=ik 2 (by simp)
 simp only[List.getElem_cons_zero,List.getElem_cons_succ] at n42
 have n43:=ik 3 (by simp)
 simp only[List.getElem_cons_zero,List.getElem_cons_succ] at n43
 have n44:=ik 4 (by simp)
 simp only[List.getElem_cons_zero,List.getElem_cons_succ] at n44
 clear ik
 go_wp2_with fail
 refine zg 6 [] none [] ?_
 simp only[zt]
 repeat ((first|refine zd ?_|refine zk ?_);simp only[zp])
 intro W5 hE hF
 have lD:=Lib.hid (aH HB4.out hE.below)
 clear hE hF c4 f4 Jn n40 n41 n42 n43 n44
 obtain⟨c5,f5,l5⟩:=cells_of_block ((lD.out.block _ lw).trans HO.out.blk)
 obtain⟨Yf,nT⟩:=HW.out W5 (lD.out.mono dP)
 have n50:=nT 0 (by simp)
 simp only[List.getElem_cons_zero,List.getElem_cons_succ] at n50
 have n51:=nT 1 (by simp)
 simp only[List.getElem_cons_zero,List.getElem_cons_succ] at n51
 have n52:=nT 2 (by simp)
 simp only[List.getElem_cons_zero,List.getElem_cons_succ] at n52
 have n53:=nT 3 (by simp)
 simp only[List.getElem_cons_zero,List.getElem_cons_succ] at n53
 have n54:=nT 4 (by simp)
 simp only[List.getElem_cons_zero,List.getElem_cons_succ] at n54
 clear nT
 go_wp2_with fail
 refine(cu 2 [decide (z<y)] W5 (by simp) _ (by simp[bI]) _ _ rfl).mono ?_
 rintro e W6 ⟨hb,⟨hc,rfl⟩|⟨hc,rfl⟩⟩
 rotate_left
 ·simp at hc
  have q0:=gJ.out
  have q1:=lN.out
  have q2:=qB.out
  simp only[act,aU,aV,List.getD_cons_zero,List.getD_cons_succ]
  (repeat (first|rw[if_pos (by omega)]|rw[if_neg (by omega)]))
  exact⟨rfl,(aH lD.out hb).mono dP,.inr ⟨by simp,rfl⟩⟩
 simp at hc
 have lT:=Lib.hid (aH lD.out hb)
 have HS6:=Lib.hid hb
 have AV:=Lib.hid hc
 clear hb hc c5 f5 Yf n50 n51 n52 n53 n54
 obtain⟨c6,f6,l6⟩:=cells_of_block ((lT.out.block _ lw).trans HO.out.blk)
 obtain⟨Ye,nS⟩:=HW.out W6 (lT.out.mono dP)
 have n60:=nS 0 (by simp)
 simp only[List.getElem_cons_zero,List.getElem_cons_succ] at n60
 have n61:=nS 1 (by simp)
 simp only[List.getElem_cons_zero,List.getElem_cons_succ] at n61
 have n62:=nS 2 (by simp)
 simp only[List.getElem_cons_zero,List.getElem_cons_succ] at n62
 have n63:=nS 3 (by simp)
 simp only[List.getElem_cons_zero,List.getElem_cons_succ] at n63
 have n64:=nS 4 (by simp)
 simp only[List.getElem_cons_zero,List.getElem_cons_succ] at n64
 clear nS
 go_wp2_with fail
 refine RX.dM (fun ps W'=> ¬(p<=q/\q<=s.led.field.rows)/\ps=refusal 2/\Below N w W') 19 [] none [(16,⟨fun _ v=>v=rv (p,q),fun _ _ _=>(p<=q/\q<=s.led.field.rows)⟩),(18,Spec.block W6.heap.size #[iv 0,iv 0,iv 0,iv 0,iv 0] 122)] (by rintro ps a1 Wx hdf ⟨h1,rfl,h3⟩;refine⟨hdf,pR (c:=2) h3 ?_ (by decide)⟩;have q0:=gJ.out;have q1:=lN.out;have q2:=qB.out;have q3:=AV.out;simp only[act,aU,aV,List.getD_cons_zero,List.getD_cons_succ];(repeat (first|rw[if_pos (by omega)]|rw[if_neg (by omega)]))) (by as_aux_lemma=>kernel_rfl) (by as_aux_lemma=>kernel_rfl) ?_
 simp only[zt]
 repeat (refine RX.zd ?_;simp only[zp])
 refine RX.aP _ (by rfl) (by rfl) ⟨_,rfl⟩ (fun Wq hE2 hF2=>?_) (fun v Wa Wb ho hE=>ho) (fun v hv=>?_)
 ·have hE':Ext [] W6 Wq:=hE2
  refine RX.bU 118 #[.pointer (some ⟨wb,0,none⟩),iv p,iv q] (by go_simp;try rfl) ?_
  refine(ou p q wb s _ Wq ((hE'.block _ (Nat.lt_of_lt_of_le lw lT.out.size) (by simp)).trans ((lT.out.block _ lw).trans HO.out.blk))).mono ?_
  rintro e w' ⟨hb,⟨hc,rfl⟩|⟨hc,rfl⟩⟩
  ·exact .inl ⟨_,rfl,rfl,hc,Ext.of_below hb⟩
  ·exact .inr ⟨_,rfl,hc,rfl,(aH lT.out (aH hE'.below hb)).mono dP⟩
 obtain rfl:v=rv (p,q):=hv
 simp only[zp]
 repeat (refine RX.zd ?_;simp only[zp])
 refine RX.gW W6.heap.size _ _ (by rfl) (Nat.le_refl _) (by rfl) (by simp) (by simp) (fun W hW=>by go_simp;try rfl) (fun b9=>?_)
 simp only[zp]
 intro Wb hE hF
 obtain⟨b9',uk,hge,hk9⟩:=hF _ (List.Mem.head _)
 cases uk
 have hc:p<=q/\q<=s.led.field.rows:=hF _ (List.Mem.tail _ (List.Mem.head _))
 have Xa:=Lib.hid (aH lT.out (show Ext [] W6 Wb from hE).below)
 have Nz:=Lib.hid hc
 have oM:=Lib.hid (And.intro (Nat.le_trans lT.out.size hge) hk9)
 obtain⟨c9,f9,l9⟩:=cells_of_block hk9
 clear hE hF hc hge hk9 c6 f6 Ye n60 n61 n62 n63 n64
 go_upto_region 5 with(fail)
 refine dD fun W7 kU=>?_
 have yC:=Lib.hid (show Below w.heap.size w W7 from by rw[kU];exact(((((Xa.out).setCell oM.out.1 _).setCell oM.out.1 _).setCell oM.out.1 _).setCell oM.out.1 _).setCell oM.out.1 _)
 have BH:=Lib.hid (show W7.heap[b9]? =some (.cells #[iv x,iv y,iv z,iv p,iv q] 122 (0,0)) from by rw[kU];exact ak (ak (ak (ak (ak (oM.out.2) _) _) _) _) _)
 have RY:b9<W7.heap.size:=(Array.getElem?_eq_some_iff.1 BH.out).1
 clear kU c9 f9 l9
 obtain⟨c7,f7,l7⟩:=cells_of_block ((yC.out.block _ lw).trans HO.out.blk)
 obtain⟨Yd,nR⟩:=HW.out W7 (yC.out.mono dP)
 have n70:=nR 0 (by simp)
 simp only[List.getElem_cons_zero,List.getElem_cons_succ] at n70
 have n71:=nR 1 (by simp)
 simp only[List.getElem_cons_zero,List.getElem_cons_succ] at n71
 have n72:=nR 2 (by simp)
 simp only[List.getElem_cons_zero,List.getElem_cons_succ] at n72
 have n73:=nR 3 (by simp)
 simp only[List.getElem_cons_zero,List.getElem_cons_succ] at n73
 have n74:=nR 4 (by simp)
 simp only[List.getElem_cons_zero,List.getElem_cons_succ] at n74
 clear nR
 go_wp2_with fail
 refine(lh _ _ _).mono ?_
 rintro e W8 ⟨hb,⟨hc,rfl⟩|⟨hc,rfl⟩⟩
 rotate_left
 ·simp at hc
  have q0:=gJ.out
  have q1:=lN.out
  have q2:=qB.out
  have q3:=AV.out
  have q4:=Nz.out
  simp only[act,aU,aV,List.getD_cons_zero,List.getD_cons_succ]
  (repeat (first|rw[if_pos (by omega)]|rw[if_neg (by omega)]))
  exact⟨rfl,(aH yC.out hb).mono dP,.inr ⟨by simp,rfl⟩⟩
 simp at hc
 have lQ:=Lib.hid (aH yC.out hb)
 have HS8:=Lib.hid hb
 have ZC:=Lib.hid hc
 clear hb hc c7 f7 Yd n70 n71 n72 n73 n74
 obtain⟨c8,f8,l8⟩:=cells_of_block ((lQ.out.block _ lw).trans HO.out.blk)
 obtain⟨lb8,xq⟩:=HW.out W8 (lQ.out.mono dP)
 have n80:=xq 0 (by simp)
 simp only[List.getElem_cons_zero,List.getElem_cons_succ] at n80
 have n81:=xq 1 (by simp)
 simp only[List.getElem_cons_zero,List.getElem_cons_succ] at n81
 have n82:=xq 2 (by simp)
 simp only[List.getElem_cons_zero,List.getElem_cons_succ] at n82
 have n83:=xq 3 (by simp)
 simp only[List.getElem_cons_zero,List.getElem_cons_succ] at n83
 have n84:=xq 4 (by simp)
 simp only[List.getElem_cons_zero,List.getElem_cons_succ] at n84
 clear xq
 go_wp2_with fail
 obtain⟨Ms,hMs⟩: ∃Ms,Ms=(Value.slice o s.led.field.ae.length cc).ownBlock.toList:=⟨_,rfl⟩
 have zU:=HO.out.below lQ.out
 have hm1:wb∉Ms:=fun h=>zU.rows.off 0 _ rfl (by rw[hMs] at h;exact Option.mem_toList.1 h)
 have hm2:b∉Ms:=fun h=>by have:=((zU.rows.own 0 _ rfl).lt b (by rw[hMs] at h;exact Option.mem_toList.1 h)).1;omega
 have qy: ∀m∈Ms,m<W8.heap.size:=fun m h=>((zU.rows.own 0 _ rfl).lt m (by rw[hMs] at h;exact Option.mem_toList.1 h)).2
 obtain⟨c9,f9,l9⟩:=cells_of_block ((HS8.out.block _ RY).trans BH.out)
 have hm9:b9∉Ms:=fun h=>by have:=((HO.out.rows.own 0 _ rfl).lt b9 (by rw[hMs] at h;exact Option.mem_toList.1 h)).2;have:=oM.out.1;omega
 have HM:=Lib.hid hMs
 have iM:=Lib.hid zU
 clear hMs zU
 refine zg 8 Ms (some 7) [(6,Spec.slice W8.heap.size #[iv x,iv y,iv z,iv p,iv q] 122 1),(7,⟨fun _ v=> ∃o2 c2,v= .slice o2 (s.led.field.ae.length+1) c2,fun _ v Wx=>Wx.ownsRow N 122 5 v (s.led.field.ae.length+1) (bM s.led.field.ae++[iv x,iv y,iv z,iv p,iv q])/\(v.ownBlock=(Value.slice o s.led.field.ae.length cc).ownBlock∨ ∃q,v.ownBlock=some q/\W8.heap.size<=q)⟩)] ?_
 simp only[zt]
 repeat ((first|refine zd ?_|refine zk ?_);simp only[zp])
 refine bZ W8.heap.size _ _ 1 (by rfl) (Nat.le_refl _) (by rfl) qy (by simp) (fun W hW=>by go_simp;try rfl) (fun b6=>?_)
 simp only[zp]
 repeat ((first|refine zd ?_|refine zk ?_);simp only[zp])
 refine aP _ (by rfl) (by rfl) (by exact⟨.slice none (s.led.field.ae.length+1) 0,none,0,rfl⟩) (fun W6 hE hF=>?_) (fun v Wa Wb ho hE=>?_) (fun v hv=>?_)
 ·have hE':Ext [] W8 W6:=hE
  obtain⟨b',hb',hge,hcc⟩:=hF _ (List.Mem.head _) (by kernel_rfl)
  cases hb'
  have hown6:W6.ownsRow N 122 5 (.slice o s.led.field.ae.length cc) s.led.field.ae.length (bM s.led.field.ae):=ah (Ms:=[]) (iM.out.rows.own 0 _ rfl) hE' (by simp)
  have hsrc:aB 5 W6 (.slice (some ⟨b6,0,none⟩) 1 1) 1 ([iv x,iv y,iv z,iv p,iv q]):=aB.of_block 5 1 hcc rfl (by decide)
  refine Does.mono (bP QT (by rfl) (by rfl) hown6 (by rfl) hsrc (Gq x y z p q) (by omega) (by omega) (by have:=hE'.size;have:=lQ.out.size;omega)) ?_
  rintro v' W7 ⟨ho,hgr,hcase⟩
  refine⟨aA ho,⟨ho,?_⟩,⟨hgr.os,hgr.tape,hgr.output,hgr.size,fun b hb hn=>hgr.block b hb (fun e=>hn (by rw[HM.out];exact Option.mem_toList.2 e.symm))⟩⟩
  rcases hcase with h1|h1
  ·exact .inl h1
  ·exact .inr ⟨_,h1,hE'.size⟩
 ·exact⟨ah (Ms:=[]) ho.1 hE (by simp),ho.2⟩
 obtain⟨o7,c7,rfl⟩:=hv
 simp only[zp]
 intro W9 hE hF
 obtain⟨lH,uH⟩:=hF _ (List.Mem.head _)
 have dZ:Ext Ms W8 W9:=hE
 have hbl:=(dZ.block wb iM.out.rows.lt hm1).trans iM.out.blk
 obtain⟨c9,f9,l9⟩:=cells_of_block hbl
 have fV:=Lib.hid (And.intro dZ (And.intro lH (And.intro uH hbl)))
 have uX:Below N w W9:=(lQ.out.mono dP).trans ⟨dZ.os,dZ.tape,dZ.output,dZ.size,fun k hk=>dZ.block k (by have:=lQ.out.size;omega) (fun h=>by have:=((iM.out.rows.own 0 _ rfl).lt k (by rw[HM.out] at h;exact Option.mem_toList.1 h)).1;omega)⟩
 have lQ:=Lib.hid uX
 clear hE hF dZ lH uH hbl uX hm1 hm2 qy c8 f8 lb8 n80 n81 n82 n83 n84
 go_wp2_with fail
 go_end0
 have q0:=gJ.out
 have q1:=lN.out
 have q2:=qB.out
 have q3:=AV.out
 have q4:=Nz.out
 have q5:=ZC.out
 simp only[act,aU,aV,List.getD_cons_zero,List.getD_cons_succ]
 (repeat (first|rw[if_pos (by omega)]|rw[if_neg (by omega)]))
 refine⟨lQ.out.setCell pK _,.inl ⟨rfl,rfl,⟨.slice o7 (s.led.field.ae.length+1) c7,vn,vw,vu,vr,vh,vk,vs⟩,es,iM.out.put (i:=0) rfl ⟨122,5,.slice o7 (s.led.field.ae.length+1) c7,s.led.field.ae.length+1,bM s.led.field.ae++[iv x,iv y,iv z,iv p,iv q]⟩ fV.out.1 (fun m hm=>by rw[HM.out] at hm;exact Option.mem_toList.1 hm) fV.out.2.1 fV.out.2.2.1 (ak fV.out.2.2.2 _) (by simp[eQ,jw,bM]) (iM.out.es)⟩⟩
theorem sH (N:Nat) (w:World) (wb:Nat) (s:gV) (V:SV) (es:List KE) (ns:Value) (x y z p q:Int) (hO:gU N w wb s V es) (hn:mF N w ns [x,y,z,p,q]) (hG:Good s):
 Calls Tryz.prog 63 #[.pointer (some ⟨wb,0,none⟩),ns] w (lM N wb (act s .tally [x,y,z,p,q]) w):=by
 by_cases h:y<z
 ·exact D5 N w wb s V es ns x y z p q hO hn hG h
 ·exact D6 N w wb s V es ns x y z p q hO hn hG (by omega)
theorem try_any (N:Nat) (w:World) (wb:Nat) (s:gV) (V:SV) (es:List KE) (ns:Value) (x y z:Int) (hO:gU N w wb s V es) (hn:mF N w ns [x,y,z]) (hG:Good s) (hx:(0<=x/\x<=9999)/\0<=y/\y<=9999):Calls Tryz.prog 80 #[.pointer (some ⟨wb,0,none⟩),ns] w (lM N wb (act s .vg [x,y,z]) w):=by
 obtain⟨vt,vn,vw,vu,vr,vh,vk,vs⟩:=V
 obtain⟨ok,ck,rfl⟩: ∃o c,vk= .slice o es.length c:=aA (n:=es.length) (hO.rows.own 6 _ rfl)
 obtain⟨o,cc,rfl⟩: ∃o c,vs= .slice o s.bG.au.length c:=aA (n:=s.bG.au.length) (hO.rows.own 7 _ rfl)
 have HO:=Lib.hid hO
 have dP:=dm hO
 obtain⟨b,c,rfl,hbN,hcs⟩:=hn
 have lb:b<w.heap.size:=by omega
 have lw:=hO.rows.lt
 have pK:=hO.rows.base
 have HW:Hid (∀W,Below N w W->b<W.heap.size/\ ∀(j:Nat) (h:j<[x,y,z].length),W.cell? ⟨b,j,none⟩=some (iv [x,y,z][j])):=Lib.hid (fun W hB=>⟨by have:=hB.size;omega,fun j h=>(World.cell?_of_block (hB.block b hbN)).trans (hcs j h)⟩)
 obtain⟨c0,f0,l0⟩:=cells_of_block hO.blk
 have jY:=hcs 0 (by simp)
 simp only[List.getElem_cons_zero,List.getElem_cons_succ] at jY
 have n01:=hcs 1 (by simp)
 simp only[List.getElem_cons_zero,List.getElem_cons_succ] at n01
 have n02:=hcs 2 (by simp)
 simp only[List.getElem_cons_zero,List.getElem_cons_succ] at n02
 have HB0:Hid (Below w.heap.size w w):=Lib.hid (Below.refl _ _)
 have EF:=hG.au
 have hes:es.length=s.bG.aC.length:=by rw[<-hO.es];simp
 have gJ:=Lib.hid hes
 clear hes
 clear hO hcs hG
 go_enter Tryz.func80,Tryz.ntmps80
 go_wp2_with fail
 refine zg 8 [] none [] ?_
 simp only[zt]
 repeat ((first|refine zd ?_|refine zk ?_);simp only[zp])
 intro W1 hE hF
 have HB1:=Lib.hid (aH HB0.out hE.below)
 clear hE hF c0 f0 jY n01 n02
 obtain⟨c1,f1,l1⟩:=cells_of_block ((HB1.out.block _ lw).trans HO.out.blk)
 obtain⟨pX,hcs1⟩:=HW.out W1 (HB1.out.mono dP)
 have n10:=hcs1 0 (by simp)
 simp only[List.getElem_cons_zero,List.getElem_cons_succ] at n10
 have n11:=hcs1 1 (by simp)
 simp only[List.getElem_cons_zero,List.getElem_cons_succ] at n11
 have n12:=hcs1 2 (by simp)
 simp only[List.getElem_cons_zero,List.getElem_cons_succ] at n12
 clear hcs1
 go_wp2_with fail
 refine(fG _ _ _).mono ?_
 rintro e W2 ⟨hb,⟨hc,rfl⟩|⟨hc,rfl⟩⟩
 rotate_left
 ·simp at hc
  have q0:=gJ.out
  simp only[act,aU,aV,List.getD_cons_zero,List.getD_cons_succ]
  (repeat (first|rw[if_pos (by omega)]|rw[if_neg (by omega)]))
  exact⟨rfl,(aH HB1.out hb).mono dP,.inr ⟨by simp,rfl⟩⟩
 simp at hc
 have HB2:=Lib.hid (aH HB1.out hb)
 have HS2:=Lib.hid hb
 have lN:=Lib.hid hc
 clear hb hc c1 f1 pX n10 n11 n12
 obtain⟨c2,f2,l2⟩:=cells_of_block ((HB2.out.block _ lw).trans HO.out.blk)
 obtain⟨qI,hcs2⟩:=HW.out W2 (HB2.out.mono dP)
 have n20:=hcs2 0 (by simp)
 simp only[List.getElem_cons_zero,List.getElem_cons_succ] at n20
 have n21:=hcs2 1 (by simp)
 simp only[List.getElem_cons_zero,List.getElem_cons_succ] at n21
 have n22:=hcs2 2 (by simp)
 simp only[List.getElem_cons_zero,List.getElem_cons_succ] at n22
 clear hcs2
 go_wp2_with fail
 refine RX.dM (fun ps W'=> ¬(y<=z/\z<=100/\z<=y+100)/\ps=refusal 2/\Below N w W') 8 [] none [(6,⟨fun _ v=>v=rv (y,z),fun _ _ _=>(y<=z/\z<=100/\z<=y+100)⟩),(7,Spec.block W2.heap.size #[iv 0,iv 0] 103)] (by rintro ps a1 Wx hdf ⟨h1,rfl,h3⟩;refine⟨hdf,pR (c:=2) h3 ?_ (by decide)⟩;have q0:=gJ.out;have q1:=lN.out;simp only[act,aU,aV,List.getD_cons_zero,List.getD_cons_succ];(repeat (first|rw[if_pos (by omega)]|rw[if_neg (by omega)]))) (by as_aux_lemma=>kernel_rfl) (by as_aux_lemma=>kernel_rfl) ?_
 simp only[zt]
 repeat (refine RX.zd ?_;simp only[zp])
 refine RX.aP _ (by rfl) (by rfl) ⟨_,rfl⟩ (fun Wq hE2 hF2=>?_) (fun v Wa Wb ho hE=>ho) (fun v hv=>?_)
 ·have hE':Ext [] W2 Wq:=hE2
  refine RX.bU 129 #[iv y,iv z,iv 100] (by go_simp;try rfl) ?_
  refine(pO y z 100 Wq (by omega)).mono ?_
  rintro e w' ⟨hb,⟨hc,rfl⟩|⟨hc,rfl⟩⟩
  ·exact .inl ⟨_,rfl,rfl,hc,Ext.of_below hb⟩
  ·exact .inr ⟨_,rfl,hc,rfl,(aH HB2.out (aH hE'.below hb)).mono dP⟩
 obtain rfl:v=rv (y,z):=hv
 simp only[zp]
 repeat (refine RX.zd ?_;simp only[zp])
 refine RX.gW W2.heap.size _ _ (by rfl) (Nat.le_refl _) (by rfl) (by simp) (by simp) (fun W hW=>by go_simp;try rfl) (fun b9=>?_)
 simp only[zp]
 intro Wb hE hF
 obtain⟨b9',uk,hge,hk9⟩:=hF _ (List.Mem.head _)
 cases uk
 have hc:y<=z/\z<=100/\z<=y+100:=hF _ (List.Mem.tail _ (List.Mem.head _))
 have Xa:=Lib.hid (aH HB2.out (show Ext [] W2 Wb from hE).below)
 have qB:=Lib.hid hc
 have oM:=Lib.hid (And.intro (Nat.le_trans HB2.out.size hge) hk9)
 obtain⟨c9,f9,l9⟩:=cells_of_block hk9
 clear hE hF hc hge hk9 c2 f2 qI n20 n21 n22
 go_upto_region 3 with(fail)
 refine dD fun W3 kU=>?_
 have HB3:=Lib.hid (show Below w.heap.size w W3 from by rw[kU];exact((Xa.out).setCell oM.out.1 _).setCell oM.out.1 _)
 have BH:=Lib.hid (show W3.heap[b9]? =some (.cells #[iv y,iv z] 103 (0,0)) from by rw[kU];exact ak (ak (oM.out.2) _) _)
 have RY:b9<W3.heap.size:=(Array.getElem?_eq_some_iff.1 BH.out).1
 clear kU c9 f9 l9
 obtain⟨c3,f3,l3⟩:=cells_of_block ((HB3.out.block _ lw).trans HO.out.blk)
 obtain⟨CO,hcs3⟩:=HW.out W3 (HB3.out.mono dP)
 have n30:=hcs3 0 (by simp)
 simp only[List.getElem_cons_zero,List.getElem_cons_succ] at n30
 have n31:=hcs3 1 (by simp)
 simp only[List.getElem_cons_zero,List.getElem_cons_succ] at n31
 have n32:=hcs3 2 (by simp)
 simp only[List.getElem_cons_zero,List.getElem_cons_succ] at n32
 clear hcs3
 go_wp2_with fail
 refine(lh _ _ _).mono ?_
 rintro e W4 ⟨hb,⟨hc,rfl⟩|⟨hc,rfl⟩⟩
 rotate_left
 ·simp at hc
  have q0:=gJ.out
  have q1:=lN.out
  have q2:=qB.out
  simp only[act,aU,aV,List.getD_cons_zero,List.getD_cons_succ]
  (repeat (first|rw[if_pos (by omega)]|rw[if_neg (by omega)]))
  exact⟨rfl,(aH HB3.out hb).mono dP,.inr ⟨by simp,rfl⟩⟩
 simp at hc
 have HB4:=Lib.hid (aH HB3.out hb)
 have Ny:=Lib.hid hb
 have AV:=Lib.hid hc
 clear hb hc c3 f3 CO n30 n31 n32
 obtain⟨c4,f4,l4⟩:=cells_of_block ((HB4.out.block _ lw).trans HO.out.blk)
 obtain⟨Jn,ik⟩:=HW.out W4 (HB4.out.mono dP)
 have n40:=ik 0 (by simp)
 simp only[List.getElem_cons_zero,List.getElem_cons_succ] at n40
 have n41:=ik 1 (by simp)
 simp only[List.getElem_cons_zero,List.getElem_cons_succ] at n41
 have n42:=ik 2 (by simp)
 simp only[List.getElem_cons_zero,List.getElem_cons_succ] at n42
 clear ik
 go_wp2_with fail
 obtain⟨Ms,hMs⟩: ∃Ms,Ms=(Value.slice o s.bG.au.length cc).ownBlock.toList:=⟨_,rfl⟩
 have hO4:=HO.out.below HB4.out
 have hm1:wb∉Ms:=fun h=>hO4.rows.off 7 _ rfl (by rw[hMs] at h;exact Option.mem_toList.1 h)
 have hm2:b∉Ms:=fun h=>by have:=((hO4.rows.own 7 _ rfl).lt b (by rw[hMs] at h;exact Option.mem_toList.1 h)).1;omega
 have qy: ∀m∈Ms,m<W4.heap.size:=fun m h=>((hO4.rows.own 7 _ rfl).lt m (by rw[hMs] at h;exact Option.mem_toList.1 h)).2
 obtain⟨c9,f9,l9⟩:=cells_of_block ((Ny.out.block _ RY).trans BH.out)
 have hm9:b9∉Ms:=fun h=>by have:=((HO.out.rows.own 7 _ rfl).lt b9 (by rw[hMs] at h;exact Option.mem_toList.1 h)).2;have:=oM.out.1;omega
 have HM:=Lib.hid hMs
 have iM:=Lib.hid hO4
 clear hMs hO4
 refine zg 12 Ms (some 11) [(10,Spec.slice W4.heap.size #[.bool true,iv x,iv y,iv z] 161 1),(11,⟨fun _ v=> ∃o2 c2,v= .slice o2 (s.bG.au.length+1) c2,fun _ v Wx=>Wx.ownsRow N 161 4 v (s.bG.au.length+1) (dR s.bG.au++[.bool true,iv x,iv y,iv z])/\(v.ownBlock=(Value.slice o s.bG.au.length cc).ownBlock∨ ∃q,v.ownBlock=some q/\W4.heap.size<=q)⟩)] ?_
 simp only[zt]
 repeat ((first|refine zd ?_|refine zk ?_);simp only[zp])
 refine bZ W4.heap.size _ _ 1 (by rfl) (Nat.le_refl _) (by rfl) qy (by simp) (fun W hW=>by go_simp;try rfl) (fun b6=>?_)
 simp only[zp]
 repeat ((first|refine zd ?_|refine zk ?_);simp only[zp])
 refine aP _ (by rfl) (by rfl) (by exact⟨.slice none (s.bG.au.length+1) 0,none,0,rfl⟩) (fun W6 hE hF=>?_) (fun v Wa Wb ho hE=>?_) (fun v hv=>?_)
 ·have hE':Ext [] W4 W6:=hE
  obtain⟨b',hb',hge,hcc⟩:=hF _ (List.Mem.head _) (by kernel_rfl)
  cases hb'
  have hown6:W6.ownsRow N 161 4 (.slice o s.bG.au.length cc) s.bG.au.length (dR s.bG.au):=ah (Ms:=[]) (iM.out.rows.own 7 _ rfl) hE' (by simp)
  have hsrc:aB 4 W6 (.slice (some ⟨b6,0,none⟩) 1 1) 1 ([.bool true,iv x,iv y,iv z]):=aB.of_block 4 1 hcc rfl (by decide)
  refine Does.mono (bP Vk (by rfl) (by rfl) hown6 (by rfl) hsrc (Vu x y z) (by omega) (by omega) (by have:=hE'.size;have:=HB4.out.size;omega)) ?_
  rintro v' W7 ⟨ho,hgr,hcase⟩
  refine⟨aA ho,⟨ho,?_⟩,⟨hgr.os,hgr.tape,hgr.output,hgr.size,fun b hb hn=>hgr.block b hb (fun e=>hn (by rw[HM.out];exact Option.mem_toList.2 e.symm))⟩⟩
  rcases hcase with h1|h1
  ·exact .inl h1
  ·exact .inr ⟨_,h1,hE'.size⟩
 ·exact⟨ah (Ms:=[]) ho.1 hE (by simp),ho.2⟩
 obtain⟨o7,c7,rfl⟩:=hv
 simp only[zp]
 intro W5 hE hF
 obtain⟨lH,uH⟩:=hF _ (List.Mem.head _)
 have dZ:Ext Ms W4 W5:=hE
 have hbl:=(dZ.block wb iM.out.rows.lt hm1).trans iM.out.blk
 obtain⟨c5,f5,l5⟩:=cells_of_block hbl
 have fV:=Lib.hid (And.intro dZ (And.intro lH (And.intro uH hbl)))
 have uX:Below N w W5:=(HB4.out.mono dP).trans ⟨dZ.os,dZ.tape,dZ.output,dZ.size,fun k hk=>dZ.block k (by have:=HB4.out.size;omega) (fun h=>by have:=((iM.out.rows.own 7 _ rfl).lt k (by rw[HM.out] at h;exact Option.mem_toList.1 h)).1;omega)⟩
 have lQ:=Lib.hid uX
 clear hE hF dZ lH uH hbl uX hm1 hm2 qy c4 f4 Jn n40 n41 n42
 go_wp2_with fail
 go_end0
 have q0:=gJ.out
 have q1:=lN.out
 have q2:=qB.out
 have q3:=AV.out
 simp only[act,aU,aV,List.getD_cons_zero,List.getD_cons_succ]
 (repeat (first|rw[if_pos (by omega)]|rw[if_neg (by omega)]))
 refine⟨lQ.out.setCell pK _,.inl ⟨rfl,rfl,⟨vt,vn,vw,vu,vr,vh,.slice ok (es.length) ck,.slice o7 (s.bG.au.length+1) c7⟩,es,iM.out.put (i:=7) rfl ⟨161,4,.slice o7 (s.bG.au.length+1) c7,s.bG.au.length+1,dR s.bG.au++[.bool true,iv x,iv y,iv z]⟩ fV.out.1 (fun m hm=>by rw[HM.out] at hm;exact Option.mem_toList.1 hm) fV.out.2.1 fV.out.2.2.1 (ak fV.out.2.2.2 _) (by simp[eQ,dI,dR]) (iM.out.es)⟩⟩
end Go.Proofs.YtabpkkbiioihaaaGreatDoor.Bk
end

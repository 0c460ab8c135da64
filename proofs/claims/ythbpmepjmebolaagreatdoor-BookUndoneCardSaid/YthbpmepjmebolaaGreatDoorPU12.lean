/-
  Texts of this claim, packed by a program: YA YB YC YE YF DA DB DC DD DE DF DG YD YI.
-/
import Derived.WalkKit
import Derived.WalkLawsBesides
import Derived.WalkSpells
import Derived.Outline
import Derived.Handy
import Derived.KernelRfl
import Derived.Lib.Hide
import Derived.Lib.AtoiTie
import Derived.Lib.ItoaNum
import Derived.StringKeys
import Derived.Lib.SlicesS
import Derived.BigRegion
import Derived.Test.YthbpmepjmebolaaGreatDoorPU8
import Derived.Test.YthbpmepjmebolaaGreatDoorPU11
set_option maxHeartbeats 8000000
set_option maxRecDepth 100000
set_option linter.all false
section
namespace Go.Proofs.YthbpmepjmebolaaGreatDoor.Bk
open jv Go.Proofs.YthbpmepjmebolaaGreatDoor.zF
abbrev aF:=List UInt8
def bG:aF->List aF
 |[]=>[[]]
 |c::l=>if c=32 then[]::bG l else(c::(bG l).headD [])::(bG l).tail
theorem jH: ∀l,bG l≠[]:=by
 intro l
 cases l with
 |nil=>simp[bG]
 |cons c l=>unfold bG;split <;>simp
theorem NC (c:UInt8) (l:aF) (h:c≠32): ∃w ws,bG l=w::ws/\bG (c::l)=(c::w)::ws:=by
 cases hw:bG l with
 |nil=>exact absurd hw (jH l)
 |cons w ws=>exact⟨w,ws,rfl,by rw[bG,ai h,hw];rfl⟩
theorem FX: ∀(a:aF),(∀c∈a,c≠32)->bG a=[a]:=by
 intro a
 induction a with
 |nil=>intro _;rfl
 |cons c a ih=>
  intro h
  rw[bG,ai (h c (by simp)),ih (fun x hx=>h x (by simp[hx]))]
  rfl
def iM (c:UInt8):Bool:=decide (48<=c.toNat)&&decide (c.toNat<=57)
def qg (s:aF):Int:=s.foldl (fun n c=>10*n+((c.toNat:Int)-48)) 0
def zU (s:aF):Bool:=decide (1<=s.length)&&decide (s.length<=4)&&(decide (s.headD 0≠48) ||decide (s.length=1))&&s.all iM
def kZ (s:aF):Option Int:=if zU s=true then some (qg s) else none
theorem KW: ∀(s:aF) (n:Int),0<=n->s.all iM=true->n*10^s.length<=s.foldl (fun n c=>10*n+((c.toNat:Int)-48)) n/\s.foldl (fun n c=>10*n+((c.toNat:Int)-48)) n<(n+1)*10^s.length:=by
 intro s
 induction s with
 |nil=>intro n h _;simp;omega
 |cons c s ih=>
  intro n h hs
  rw[List.all_cons,fH] at hs
  have hd:=hs.1
  simp only[iM,fH,eY] at hd
  have hp:0<(10:Int)^s.length:=Int.pow_pos (by omega)
  have:=ih (10*n+((c.toNat:Int)-48)) (by omega) hs.2
  rw[List.foldl_cons,List.length_cons,Int.pow_succ]
  have e1:n*(10^s.length*10)=(10*n)*10^s.length:=by rw[Int.mul_comm (10^s.length) 10, <-Int.mul_assoc,Int.mul_comm n 10]
  have e2:(n+1)*(10^s.length*10)=(10*(n+1))*10^s.length:=by rw[Int.mul_comm (10^s.length) 10, <-Int.mul_assoc,Int.mul_comm (n+1) 10]
  rw[e1,e2]
  have h1:(10*n)*10^s.length<=(10*n+((c.toNat:Int)-48))*10^s.length:=Int.mul_le_mul_of_nonneg_right (by omega) (by omega)
  have h2:(10*n+((c.toNat:Int)-48)+1)*10^s.length<=(10*(n+1))*10^s.length:=Int.mul_le_mul_of_nonneg_right (by omega) (by omega)
  omega
theorem LH {s:aF} {n:Int} (h:kZ s=some n):0<=n/\n<=9999:=by
 unfold kZ at h
 split at h
 ·rename_i hf
  obtain rfl:=iV h
  simp only[zU,fH,eY] at hf
  have h1:=KW s 0 (by omega) hf.2
  have h2:(10:Int)^s.length<=10000:=by
   have h3:=hf.1.1.1
   have h4:=hf.1.1.2
   clear h1 hf
   generalize s.length=k at*
   rcases(show k=1∨k=2∨k=3∨k=4 by omega) with rfl|rfl|rfl|rfl <;>decide
  unfold qg
  omega
 ·cases h
inductive jl where
 |row|left|tally|Be|kF|rate|box|note|void|start|bW|turn|mY|xN|unread|heap|strong|qh|fill|xK|qJ
 deriving DecidableEq
def MZ:List jl:=[.row,.left,.tally,.Be,.kF,.rate,.box,.note,.void,.start,.bW,.turn,.mY,.xN,.unread,.heap,.strong,.qh,.fill,.xK,.qJ]
def jl.word:jl->aF
 | .row=>[114,111,119]
 | .left=>[108,101,102,116]
 | .tally=>[116,97,108,108,121]
 | .Be=>[119,97,115,104]
 | .kF=>[117,110,116,97,108,108,121]
 | .rate=>[114,97,116,101]
 | .box=>[98,111,120]
 | .note=>[110,111,116,101]
 | .void=>[118,111,105,100]
 | .start=>[115,116,97,114,116]
 | .bW=>[119,101,116]
 | .turn=>[116,117,114,110]
 | .mY=>[117,110,116,117,114,110]
 | .xN=>[105,114,111,110]
 | .unread=>[117,110,114,101,97,100]
 | .heap=>[104,101,97,112]
 | .strong=>[115,116,114,111,110,103]
 | .qh=>[99,97,115,107]
 | .fill=>[102,105,108,108]
 | .xK=>[116,114,121]
 | .qJ=>[117,110,116,114,121]
def jl.many:jl->Nat
 | .row=>0
 | .kF| .rate| .void| .turn| .mY| .unread| .qJ=>1
 | .left| .box| .start| .heap| .qh=>2
 | .Be| .note| .bW| .xN| .strong| .fill| .xK=>3
 | .tally=>5
def ug (w:aF):Option jl:=MZ.find? fun c=>c.word==w
theorem AP (c:jl):ug c.word=some c:=by cases c <;>decide
theorem Ig {w:aF} {c:jl} (h:ug w=some c):w=c.word:=by
 have:=List.find?_some h
 exact(beq_iff_eq.1 this).symm
theorem fO {w:aF} (h:ug w=none) (c:jl):w≠c.word:=by
 intro e
 rw[e,AP] at h
 cases h
def kN:List aF->Option (List Int)
 |[]=>some []
 |p::ps=>(kZ p).bind fun n=>(kN ps).map (n:: ·)
theorem zq: ∀{ps:List aF} {n:List Int},kN ps=some n->n.length=ps.length:=by
 intro ps
 induction ps with
 |nil=>intro n h;obtain rfl:=iV h;rfl
 |cons p ps ih=>
  intro n h
  unfold kN at h
  cases hp:kZ p with
  |none=>rw[hp] at h;cases h
  |some x=>
   cases hq:kN ps with
   |none=>rw[hp,hq] at h;cases h
   |some y=>
    rw[hp,hq] at h
    obtain rfl:=iV h
    simp[ih hq]
theorem ZF: ∀{ps:List aF} {n:List Int},kN ps=some n-> ∀x∈n,0<=x/\x<=9999:=by
 intro ps
 induction ps with
 |nil=>intro n h x hx;obtain rfl:=iV h;cases hx
 |cons p ps ih=>
  intro n h x hx
  unfold kN at h
  cases hp:kZ p with
  |none=>rw[hp] at h;cases h
  |some y=>
   cases hq:kN ps with
   |none=>rw[hp,hq] at h;cases h
   |some z=>
    rw[hp,hq] at h
    obtain rfl:=iV h
    rcases iy.1 hx with rfl|hx
    ·exact LH hp
    ·exact ih hq x hx
def mO (line:aF):Option (jl×List Int):=
 (ug ((bG line).headD [])).bind fun c=>if(bG line).tail.length=c.many then(kN (bG line).tail).map fun n=>(c,n) else none
theorem ni {line:aF} {c:jl} {n:List Int} (h:mO line=some (c,n)):(bG line).headD []=c.word/\n.length=c.many/\(∀x∈n,0<=x/\x<=9999)/\kN (bG line).tail=some n:=by
 unfold mO at h
 cases hc:ug ((bG line).headD []) with
 |none=>rw[hc] at h;cases h
 |some d=>
  rw[hc,Option.bind_some] at h
  split at h
  ·rename_i hl
   cases hn:kN (bG line).tail with
   |none=>rw[hn] at h;cases h
   |some m=>
    rw[hn] at h
    obtain⟨rfl,rfl⟩:=Prod.mk.inj (iV h)
    exact⟨Ig hc,by rw[zq hn,hl],ZF hn,rfl⟩
  ·cases h
structure jF where
 led:aQ
 heap:df
 dn:bQ
def ed:jF:=
 {led:={field:={rows:=3,aO:=2,left:=(0,3),ax:=[]},rate:=10,box:=(0,2000),notes:=[]}
  heap:={last:=4,size:=10,bg:=50,die:=10,uK:=60,start:=(30,30),bW:=List.replicate 5 (6,6),turns:=[],readings:=[]}
  dn:={heaps:=[(40,40)],aT:=[],aK:=[]}}
def Lp (a b most:Int):Bool:=decide (a<=b)&&decide (b<=most)
def LP (a b most wide:Int):Bool:=decide (a<=b)&&decide (b<=most)&&decide (b<=a+wide)
def gI (last:Int) (p:Int->Bool):List Int:=((List.range (last+1).toNat).map fun(k:Nat)=>(k:Int)).filter p
def kR (s:jF) (l:List Nb):jF:={s with led:={s.led with field:={s.led.field with ax:=l}}}
def kV (s:jF) (l:List (Int×dX)):jF:={s with led:={s.led with notes:=l}}
def gU (s:jF) (h:df):jF:={s with heap:=h}
def fC (s:jF) (c:bQ):jF:={s with dn:=c}
def iL (s:jF):jl->List Int->Int×jF
 | .row,_=>if 5<=s.led.field.rows then(3,s) else(0,{s with led:={s.led with field:={s.led.field with rows:=s.led.field.rows+1}}})
 | .left,n=>if Lp (n.getD 0 0) (n.getD 1 0) s.led.field.rows=false then(2,s)
    else(0,{s with led:={s.led with field:={s.led.field with left:=(n.getD 0 0,n.getD 1 0)}}})
 | .tally,n=>if s.led.field.aO<=n.getD 0 0 then(7,s) else if s.led.field.rows<=n.getD 1 0∨s.led.field.rows<=n.getD 2 0 then(7,s)
    else if n.getD 2 0<n.getD 1 0 then(2,s) else if Lp (n.getD 3 0) (n.getD 4 0) s.led.field.rows=false then(2,s)
    else if 5<=s.led.field.ax.length then(3,s)
    else(0,kR s (s.led.field.ax++[(n.getD 0 0,n.getD 1 0,n.getD 2 0,(n.getD 3 0,n.getD 4 0))]))
 | .Be,n=>if(s.led.field.ax.length:Int)<=n.getD 0 0 then(7,s) else if Lp (n.getD 1 0) (n.getD 2 0) s.led.field.rows=false then(2,s)
    else(0,kR s (s.led.field.ax.set (n.getD 0 0).toNat
     (let t:=s.led.field.ax.getD (n.getD 0 0).toNat (0,0,0,(0,0));(t.1,t.2.1,t.2.2.1,(n.getD 1 0,n.getD 2 0)))))
 | .kF,n=>if(s.led.field.ax.length:Int)<=n.getD 0 0 then(7,s) else(0,kR s (s.led.field.ax.eraseIdx (n.getD 0 0).toNat))
 | .rate,n=>if n.getD 0 0=0∨50<n.getD 0 0 then(2,s) else(0,{s with led:={s.led with rate:=n.getD 0 0}})
 | .box,n=>if Lp (n.getD 0 0) (n.getD 1 0) 2000=false then(2,s) else(0,{s with led:={s.led with box:=(n.getD 0 0,n.getD 1 0)}})
 | .note,n=>if s.led.field.aO<=n.getD 0 0 then(7,s) else if Lp (n.getD 1 0) (n.getD 2 0) 2000=false then(2,s)
    else if 5<=s.led.notes.length then(3,s) else(0,kV s (s.led.notes++[(n.getD 0 0,(n.getD 1 0,n.getD 2 0))]))
 | .void,n=>if(s.led.notes.length:Int)<=n.getD 0 0 then(7,s) else(0,kV s (s.led.notes.eraseIdx (n.getD 0 0).toNat))
 | .start,n=>if LP (n.getD 0 0) (n.getD 1 0) 500 2=false then(2,s) else(0,gU s {s.heap with start:=(n.getD 0 0,n.getD 1 0)})
 | .bW,n=>if s.heap.last<n.getD 0 0 then(7,s) else if LP (n.getD 1 0) (n.getD 2 0) 20 2=false then(2,s)
    else(0,gU s {s.heap with bW:=s.heap.bW.set (n.getD 0 0).toNat (n.getD 1 0,n.getD 2 0)})
 | .turn,n=>if s.heap.last<n.getD 0 0 then(7,s) else if s.heap.turns.contains (n.getD 0 0) then(6,s)
    else(0,gU s {s.heap with turns:=gI s.heap.last fun i=>i==n.getD 0 0 ||s.heap.turns.contains i})
 | .mY,n=>if s.heap.turns.contains (n.getD 0 0)=false then(7,s)
    else(0,gU s {s.heap with turns:=gI s.heap.last fun i=>i !=n.getD 0 0&&s.heap.turns.contains i})
 | .xN,n=>if s.heap.last<n.getD 0 0 then(7,s) else if 1000<n.getD 1 0∨50<n.getD 2 0 then(2,s)
    else if 5<=s.heap.readings.length then(3,s) else(0,gU s {s.heap with readings:=s.heap.readings++[(n.getD 0 0,n.getD 1 0,n.getD 2 0)]})
 | .unread,n=>if(s.heap.readings.length:Int)<=n.getD 0 0 then(7,s) else(0,gU s {s.heap with readings:=s.heap.readings.eraseIdx (n.getD 0 0).toNat})
 | .heap,n=>if LP (n.getD 0 0) (n.getD 1 0) 100 9=false then(2,s) else if 3<=s.dn.heaps.length then(3,s)
    else(0,fC s {s.dn with heaps:=s.dn.heaps++[(n.getD 0 0,n.getD 1 0)],aT:=s.dn.aT.map (· ++[0])})
 | .strong,n=>if(s.dn.heaps.length:Int)<=n.getD 0 0 then(7,s) else if LP (n.getD 1 0) (n.getD 2 0) 100 9=false then(2,s)
    else(0,fC s {s.dn with heaps:=s.dn.heaps.set (n.getD 0 0).toNat (n.getD 1 0,n.getD 2 0)})
 | .qh,n=>if(s.dn.heaps.length:Int)<=n.getD 0 0 then(7,s) else if n.getD 1 0=0∨30<n.getD 1 0 then(2,s)
    else if 3<=s.dn.aT.length then(3,s)
    else(0,fC s {s.dn with aT:=s.dn.aT++[(List.replicate s.dn.heaps.length 0).set (n.getD 0 0).toNat (n.getD 1 0)]})
 | .fill,n=>if(s.dn.aT.length:Int)<=n.getD 0 0 then(7,s) else if(s.dn.heaps.length:Int)<=n.getD 1 0 then(7,s) else if 30<n.getD 2 0 then(2,s)
    else if((s.dn.aT.getD (n.getD 0 0).toNat []).set (n.getD 1 0).toNat (n.getD 2 0)).any (fun x=>decide (0<x))=false then(8,s)
    else(0,fC s {s.dn with aT:=s.dn.aT.set (n.getD 0 0).toNat ((s.dn.aT.getD (n.getD 0 0).toNat []).set (n.getD 1 0).toNat (n.getD 2 0))})
 | .xK,n=>if(s.dn.aT.length:Int)<=n.getD 0 0 then(7,s) else if LP (n.getD 1 0) (n.getD 2 0) 100 100=false then(2,s)
    else if 5<=s.dn.aK.length then(3,s) else(0,fC s {s.dn with aK:=s.dn.aK++[(true,n.getD 0 0,(n.getD 1 0,n.getD 2 0))]})
 | .qJ,n=>if(s.dn.aK.length:Int)<=n.getD 0 0 then(7,s) else(0,fC s {s.dn with aK:=s.dn.aK.eraseIdx (n.getD 0 0).toNat})
structure gu (s:jF):Prop where
 rows:3<=s.led.field.rows/\s.led.field.rows<=5
 aO:s.led.field.aO=2
 left:0<=s.led.field.left.1/\s.led.field.left.1<=s.led.field.left.2/\s.led.field.left.2<=s.led.field.rows
 Ae:s.led.field.ax.length<=5
 vO: ∀t∈s.led.field.ax,(0<=t.1/\t.1<2)/\(0<=t.2.1/\t.2.1<=t.2.2.1/\t.2.2.1<s.led.field.rows)/\(0<=t.2.2.2.1/\t.2.2.2.1<=t.2.2.2.2/\t.2.2.2.2<=s.led.field.rows)
 rate:1<=s.led.rate/\s.led.rate<=50
 box:0<=s.led.box.1/\s.led.box.1<=s.led.box.2/\s.led.box.2<=2000
 notes:s.led.notes.length<=5
 note: ∀t∈s.led.notes,(0<=t.1/\t.1<2)/\(0<=t.2.1/\t.2.1<=t.2.2/\t.2.2<=2000)
 heap:s.heap.last=4/\s.heap.size=10/\s.heap.bg=50/\s.heap.die=10/\s.heap.uK=60
 start:0<=s.heap.start.1/\s.heap.start.1<=s.heap.start.2/\s.heap.start.2<=500/\s.heap.start.2<=s.heap.start.1+2
 VJ:s.heap.bW.length=5
 bW: ∀r∈s.heap.bW,0<=r.1/\r.1<=r.2/\r.2<=20/\r.2<=r.1+2
 turns: ∃p,s.heap.turns=gI 4 p
 reads:s.heap.readings.length<=5
 read: ∀x∈s.heap.readings,(0<=x.1/\x.1<=4)/\(0<=x.2.1/\x.2.1<=1000)/\(0<=x.2.2/\x.2.2<=50)
 Uh:1<=s.dn.heaps.length/\s.dn.heaps.length<=3
 dn: ∀r∈s.dn.heaps,0<=r.1/\r.1<=r.2/\r.2<=100/\r.2<=r.1+9
 aT:s.dn.aT.length<=3
 qh: ∀l∈s.dn.aT,l.length=s.dn.heaps.length/\(∀x∈l,0<=x/\x<=30)/\0<mW l
 aK:s.dn.aK.length<=5
 trial: ∀t∈s.dn.aK,t.1=true/\(0<=t.2.1/\t.2.1<s.dn.aT.length)/\(0<=t.2.2.1/\t.2.2.1<=t.2.2.2/\t.2.2.2<=100)
theorem Ir:gu ed where
 rows:=by decide
 aO:=rfl
 left:=by decide
 Ae:=by decide
 vO:=fun _ h=>by cases h
 rate:=by decide
 box:=by decide
 notes:=by decide
 note:=fun _ h=>by cases h
 heap:=by decide
 start:=by decide
 VJ:=rfl
 bW:=fun r h=>by obtain rfl:=List.eq_of_mem_replicate h;decide
 turns:=⟨fun _=>false,by decide⟩
 reads:=by decide
 read:=fun _ h=>by cases h
 Uh:=by decide
 dn:=fun r h=>by obtain rfl:=eU.1 h;decide
 aT:=by decide
 qh:=fun _ h=>by cases h
 aK:=by decide
 trial:=fun _ h=>by cases h
theorem BN {n:List Int} (h: ∀x∈n,0<=x/\x<=9999) (i:Nat):0<=n.getD i 0/\n.getD i 0<=9999:=by
 by_cases hi:i<n.length
 ·rw[iF,dP hi,Option.getD_some];exact h _ (cZ hi)
 ·rw[iF,List.getElem?_eq_none (by omega)];exact⟨by decide,by decide⟩
theorem vW {α:Type} {l:List α} {i:Nat} {x y:α} (h:y∈l.set i x):y=x∨y∈l:=by
 rcases List.mem_or_eq_of_mem_set h with h|h
 ·exact .inr h
 ·exact .inl h
theorem abV {l:List Int} (h: ∀x∈l,0<=x/\x<=30):0<=mW l:=(FK (by omega) h).1
theorem NL {l:List Int} (h: ∀x∈l,0<=x/\x<=30):0<mW l↔l.any (fun x=>decide (0<x))=true:=by
 induction l with
 |nil=>simp[mW]
 |cons x l ih=>
  have h1:=h x (by simp)
  have h2:=abV (l:=l) (fun y hy=>h y (by simp[hy]))
  have h3:=ih (fun y hy=>h y (by simp[hy]))
  rw[List.any_cons,Bool.or_eq_true, <-h3,eY]
  simp only[mW]
  omega
theorem Rj (l:List Int):mW (l++[0])=mW l:=by rw[NM];simp[mW]
theorem yj {a b m:Int}:Lp a b m=true↔a<=b/\b<=m:=by simp[Lp]
theorem yz {a b m w:Int}:LP a b m w=true↔a<=b/\b<=m/\b<=a+w:=by simp[LP,and_assoc]
theorem mem_erase {α:Type} {l:List α} {i:Nat} {x:α} (h:x∈l.eraseIdx i):x∈l:=List.mem_of_mem_eraseIdx h
theorem zy {α:Type} (l:List α) (i:Nat):(l.eraseIdx i).length<=l.length:=List.length_eraseIdx_le l i
theorem abb {s:jF} (hG:gu s) (c:jl) {n:List Int} (hn: ∀x∈n,0<=x/\x<=9999) (h0:(iL s c n).1=0):gu (iL s c n).2:=by
 have n0:=BN hn 0
 have n1:=BN hn 1
 have n2:=BN hn 2
 have n3:=BN hn 3
 cases c <;>simp only[iL] at h0⊢
 case row=>
  split at h0 <;>first|omega|skip
  rename_i h1
  rw[ai h1]
  have:=hG.rows;have:=hG.left
  exact {hG with rows:=by simp only;omega,left:=by simp only;omega,vO:=fun t ht=>by have:=hG.vO t ht;simp only at*;omega}
 case left=>
  split at h0 <;>first|omega|skip
  rename_i h1
  rw[ai h1]
  rw[Bool.not_eq_false,yj] at h1
  exact {hG with left:=by simp only;omega}
 case tally=>
  repeat' (split at h0;· omega)
  rename_i h1 h2 h3 h4 h5
  rw[ai h1,ai h2,ai h3,ai h4,ai h5]
  rw[Bool.not_eq_false,yj] at h4
  have hw:=hG.aO
  refine {hG with Ae:=by simp[kR];omega,vO:=fun t ht=>?_}
  rcases iI.1 ht with ht|ht
  ·exact hG.vO t ht
  ·obtain rfl:=eU.1 ht
   simp only[kR];omega
 case Be=>
  repeat' (split at h0;· omega)
  rename_i h1 h2
  rw[ai h1,ai h2]
  rw[Bool.not_eq_false,yj] at h2
  refine {hG with Ae:=by simp[kR];exact hG.Ae,vO:=fun t ht=>?_}
  rcases vW ht with rfl|ht
  ·have hk:(n.getD 0 0).toNat<s.led.field.ax.length:=by omega
   have:=hG.vO _ (cZ hk)
   rw[iF (l:=s.led.field.ax),dP hk,Option.getD_some]
   simp only[kR];omega
  ·exact hG.vO t ht
 case kF=>
  repeat' (split at h0;· omega)
  rename_i h1
  rw[ai h1]
  exact {hG with Ae:=jq (zy _ _) hG.Ae,vO:=fun t ht=>hG.vO t (mem_erase ht)}
 case rate=>
  repeat' (split at h0;· omega)
  rename_i h1
  rw[ai h1]
  exact {hG with rate:=by simp only;omega}
 case box=>
  repeat' (split at h0;· omega)
  rename_i h1
  rw[ai h1]
  rw[Bool.not_eq_false,yj] at h1
  exact {hG with box:=by simp only;omega}
 case note=>
  repeat' (split at h0;· omega)
  rename_i h1 h2 h3
  rw[ai h1,ai h2,ai h3]
  rw[Bool.not_eq_false,yj] at h2
  have hw:=hG.aO
  refine {hG with notes:=by simp[kV];omega,note:=fun t ht=>?_}
  rcases iI.1 ht with ht|ht
  ·exact hG.note t ht
  ·obtain rfl:=eU.1 ht
   simp only;omega
 case void=>
  repeat' (split at h0;· omega)
  rename_i h1
  rw[ai h1]
  exact {hG with notes:=jq (zy _ _) hG.notes,note:=fun t ht=>hG.note t (mem_erase ht)}
 case start=>
  repeat' (split at h0;· omega)
  rename_i h1
  rw[ai h1]
  rw[Bool.not_eq_false,yz] at h1
  exact {hG with start:=by simp only[gU];omega}
 case bW=>
  repeat' (split at h0;· omega)
  rename_i h1 h2
  rw[ai h1,ai h2]
  rw[Bool.not_eq_false,yz] at h2
  refine {hG with VJ:=by simp[gU];exact hG.VJ,bW:=fun r hr=>?_}
  rcases vW hr with rfl|hr
  ·simp only;omega
  ·exact hG.bW r hr
 case turn=>
  repeat' (split at h0;· omega)
  rename_i h1 h2
  rw[ai h1,ai h2]
  exact {hG with turns:=⟨_,by simp only[gU,hG.heap.1];rfl⟩}
 case mY=>
  repeat' (split at h0;· omega)
  rename_i h1
  rw[ai h1]
  exact {hG with turns:=⟨_,by simp only[gU,hG.heap.1];rfl⟩}
 case xN=>
  repeat' (split at h0;· omega)
  rename_i h1 h2 h3
  rw[ai h1,ai h2,ai h3]
  have hl:=hG.heap.1
  refine {hG with reads:=by simp[gU];omega,read:=fun t ht=>?_}
  rcases iI.1 ht with ht|ht
  ·exact hG.read t ht
  ·obtain rfl:=eU.1 ht
   simp only;omega
 case unread=>
  repeat' (split at h0;· omega)
  rename_i h1
  rw[ai h1]
  exact {hG with reads:=jq (zy _ _) hG.reads,read:=fun t ht=>hG.read t (mem_erase ht)}
 case heap=>
  repeat' (split at h0;· omega)
  rename_i h1 h2
  rw[ai h1,ai h2]
  rw[Bool.not_eq_false,yz] at h1
  refine {hG with Uh:=by simp[fC];omega,dn:=fun r hr=>?_,aT:=by simp[fC];exact hG.aT,qh:=fun l hl=>?_,trial:=fun t ht=>?_}
  ·rcases iI.1 hr with hr|hr
   ·exact hG.dn r hr
   ·obtain rfl:=eU.1 hr
    simp only;omega
  ·obtain⟨m,hm,rfl⟩:=iZ.1 hl
   have:=hG.qh m hm
   refine⟨by simp[fC,this.1],fun x hx=>?_,by rw[Rj];exact this.2.2⟩
   rcases iI.1 hx with hx|hx
   ·exact this.2.1 x hx
   ·obtain rfl:=eU.1 hx;decide
  ·have:=hG.trial t ht
   simp only[fC,lN]
   exact this
 case strong=>
  repeat' (split at h0;· omega)
  rename_i h1 h2
  rw[ai h1,ai h2]
  rw[Bool.not_eq_false,yz] at h2
  refine {hG with Uh:=by simp[fC];exact hG.Uh,dn:=fun r hr=>?_,qh:=fun l hl=>by simp[fC];exact hG.qh l hl}
  rcases vW hr with rfl|hr
  ·simp only;omega
  ·exact hG.dn r hr
 case qh=>
  repeat' (split at h0;· omega)
  rename_i h1 h2 h3
  rw[ai h1,ai h2,ai h3]
  have hk:(n.getD 0 0).toNat<s.dn.heaps.length:=by omega
  have hx: ∀x∈(List.replicate s.dn.heaps.length (0:Int)).set (n.getD 0 0).toNat (n.getD 1 0),0<=x/\x<=30:=fun x hx=>by
   rcases vW hx with rfl|hx
   ·omega
   ·obtain rfl:=List.eq_of_mem_replicate hx;decide
  refine {hG with aT:=by simp[fC];omega,qh:=fun l hl=>?_,trial:=fun t ht=>?_}
  ·rcases iI.1 hl with hl|hl
   ·exact hG.qh l hl
   ·obtain rfl:=eU.1 hl
    refine⟨by simp[fC],hx,(NL hx).2 ?_⟩
    rw[List.any_eq_true]
    exact⟨n.getD 1 0,List.mem_iff_getElem.2 ⟨(n.getD 0 0).toNat,by simpa using hk,List.getElem_set_self _⟩,decide_eq_true (by omega)⟩
  ·have:=hG.trial t ht
   simp only[fC,dA,List.length_singleton]
   exact⟨this.1,by omega,this.2.2⟩
 case fill=>
  repeat' (split at h0;· omega)
  rename_i h1 h2 h3 h4
  rw[ai h1,ai h2,ai h3,ai h4]
  have hk:(n.getD 0 0).toNat<s.dn.aT.length:=by omega
  have hb:=hG.qh _ (cZ hk)
  rw[iF (l:=s.dn.aT),dP hk,Option.getD_some] at h4⊢
  have hx: ∀x∈s.dn.aT[(n.getD 0 0).toNat].set (n.getD 1 0).toNat (n.getD 2 0),0<=x/\x<=30:=fun x hx=>by
   rcases vW hx with rfl|hx
   ·omega
   ·exact hb.2.1 x hx
  refine {hG with aT:=by simp[fC];exact hG.aT,qh:=fun l hl=>?_,trial:=fun t ht=>?_}
  ·rcases vW hl with rfl|hl
   ·exact⟨by rw[qA];exact hb.1,hx,(NL hx).2 (by simpa using h4)⟩
   ·exact hG.qh l hl
  ·have:=hG.trial t ht
   simp only[fC,qA]
   exact this
 case xK=>
  repeat' (split at h0;· omega)
  rename_i h1 h2 h3
  rw[ai h1,ai h2,ai h3]
  rw[Bool.not_eq_false,yz] at h2
  refine {hG with aK:=by simp[fC];omega,trial:=fun t ht=>?_}
  rcases iI.1 ht with ht|ht
  ·exact hG.trial t ht
  ·obtain rfl:=eU.1 ht
   exact⟨rfl,by simp only[fC];omega,by simp only;omega⟩
 case qJ=>
  repeat' (split at h0;· omega)
  rename_i h1
  rw[ai h1]
  exact {hG with aK:=jq (zy _ _) hG.aK,trial:=fun t ht=>hG.trial t (mem_erase ht)}
end Go.Proofs.YthbpmepjmebolaaGreatDoor.Bk
end
section
namespace Go.Proofs.YthbpmepjmebolaaGreatDoor.Bk
open jv Go.Lib
abbrev Dz (k:Nat):UInt8:=UInt8.ofNat (48+k)
theorem qI {k:Nat} (h:k<10):(Dz k).toNat=48+k:=by simp[Dz];omega
theorem XH {k:Nat} (h:k<10):iM (Dz k)=true:=by
 simp only[iM,qI h,fH,eY];omega
theorem ae7 {k:Nat} (h:k<10) (h1:1<=k):Dz k≠48:=fun e=>by
 have:=congrArg UInt8.toNat e
 rw[qI h] at this
 have h2:(48:UInt8).toNat=48:=by decide
 omega
theorem aaN {c:UInt8} (h:iM c=true): ∃k,k<10/\c=Dz k:=by
 simp only[iM,fH,eY] at h
 refine⟨c.toNat-48,by omega,?_⟩
 apply UInt8.toNat_inj.1
 rw[qI (by omega)]
 omega
theorem XI {k:Nat} (h:k<10):Dz k≠32:=fun e=>by
 have:=congrArg UInt8.toNat e
 rw[qI h] at this
 have h2:(32:UInt8).toNat=32:=by decide
 omega
theorem lD {u:Nat} (h:u<10):decDigits u=[Dz u]:=by rw[decDigits,dif_pos h]
theorem xm {u:Nat} (h: ¬u<10):decDigits u=decDigits (u/10)++[Dz (u%10)]:=by rw[decDigits,dif_neg h]
theorem PK: ∀u, ∀c∈decDigits u, ∃k,k<10/\c=Dz k:=by
 intro u
 induction u using Nat.strongRecOn with
 |_ u ih=>
  intro c hc
  by_cases h:u<10
  ·rw[lD h] at hc
   obtain rfl:=eU.1 hc
   exact⟨u,h,rfl⟩
  ·rw[xm h] at hc
   rcases iI.1 hc with hc|hc
   ·exact ih _ (by omega) c hc
   ·obtain rfl:=eU.1 hc
    exact⟨u%10,by omega,rfl⟩
theorem PI (u:Nat): ∀c∈decDigits u,c≠32:=fun c hc=>by
 obtain⟨k,hk,rfl⟩:=PK u c hc
 exact XI hk
theorem aaT (u:Nat):1<=(decDigits u).length:=by
 by_cases h:u<10
 ·rw[lD h];exact ak _
 ·rw[xm h];simp
theorem yX (s:aF) (c:UInt8):qg (s++[c])=10*qg s+((c.toNat:Int)-48):=by unfold qg;rw[List.foldl_append];rfl
theorem abJ (u:Nat):qg (decDigits u)=u:=by
 induction u using Nat.strongRecOn with
 |_ u ih=>
  by_cases h:u<10
  ·rw[lD h]
   show 10*(0:Int)+(((Dz u).toNat:Int)-48)=u
   rw[qI h];omega
  ·rw[xm h,yX,ih _ (by omega),qI (by omega)]
   omega
theorem Ie: ∀(k u:Nat),u<10^(k+1)->(decDigits u).length<=k+1:=by
 intro k
 induction k with
 |zero=>intro u h;rw[lD (by omega)];exact ak _
 |succ k ih=>
  intro u h
  by_cases hu:u<10
  ·rw[lD hu];simp
  ·rw[xm hu,dA]
   have:=ih (u/10) (by rw[Nat.pow_succ] at h;omega)
   simp only[List.length_singleton]
   omega
theorem aio (u:Nat):u<10^(decDigits u).length:=by
 induction u using Nat.strongRecOn with
 |_ u ih=>
  by_cases h:u<10
  ·rw[lD h];simpa using h
  ·rw[xm h,dA,List.length_singleton,Nat.pow_succ]
   have:=ih (u/10) (by omega)
   omega
theorem acP {u:Nat} (h1:1<=u):(decDigits u).headD 0≠48:=by
 induction u using Nat.strongRecOn with
 |_ u ih=>
  by_cases h:u<10
  ·rw[lD h];exact ae7 h h1
  ·rw[xm h]
   have h2:=ih (u/10) (by omega) (by omega)
   have h3:=aaT (u/10)
   cases hd:decDigits (u/10) with
   |nil=>rw[hd] at h3;simp at h3
   |cons a l=>rw[hd] at h2;exact h2
theorem U2 {u:Nat} (h:u<10000):kZ (decDigits u)=some (u:Int):=by
 have h1:=aaT u
 have h2:=Ie 3 u (by simpa using h)
 have h3:(decDigits u).all iM=true:=by
  rw[jR]
  intro c hc
  obtain⟨k,hk,rfl⟩:=PK u c hc
  exact XH hk
 unfold kZ
 rw[aA,abJ]
 unfold zU
 rw[h3,decide_eq_true h1,decide_eq_true h2]
 by_cases hu:u=0
 ·subst hu;rw[lD (by omega)];decide
 ·rw[decide_eq_true (acP (u:=u) (by omega))];rfl
theorem acO: ∀(k:Nat) (s:aF),s.length=k+1->s.all iM=true->(s.headD 0≠48∨s.length=1)->decDigits (qg s).toNat=s:=by
 intro k
 induction k with
 |zero=>
  intro s hl hd _
  obtain⟨c,rfl⟩:=List.length_eq_one_iff.1 hl
  have hc:iM c=true:=by simpa using hd
  obtain⟨j,hj,rfl⟩:=aaN hc
  show decDigits (10*(0:Int)+(((Dz j).toNat:Int)-48)).toNat=_
  rw[qI hj,show(10*(0:Int)+(((48+j:Nat):Int)-48)).toNat=j from by omega,lD hj]
 |succ k ih=>
  intro s hl hd hh
  obtain⟨t,c,rfl⟩: ∃t c,s=t++[c]:=by
   rcases List.eq_nil_or_concat s with rfl|⟨t,c,rfl⟩
   ·simp at hl
   ·exact⟨t,c,by simp⟩
  have hl':t.length=k+1:=by simpa using hl
  rw[List.all_append,fH] at hd
  have hc:iM c=true:=by simpa using hd.2
  obtain⟨j,hj,rfl⟩:=aaN hc
  have hne:t.headD 0≠48:=by
   rcases hh with hh|hh
   ·cases t with
    |nil=>simp at hl'
    |cons a t=>exact hh
   ·rw[hl] at hh;omega
  have h1:=ih t hl' hd.1 (.inl hne)
  have hb:=KW t 0 (by omega) hd.1
  have hpos:1<=qg t:=by
   have hnn:0<=qg t:=by unfold qg;omega
   by_cases hz:qg t=0
   ·rw[hz] at h1
    have h48:decDigits (0:Int).toNat=[48]:=by rw[show(0:Int).toNat=0 from rfl,lD (by omega)];rfl
    rw[h48] at h1
    rw[<-h1] at hne
    exact absurd rfl hne
   ·omega
  rw[yX,qI hj,xm (by omega)]
  rw[show(10*qg t+(((48+j:Nat):Int)-48)).toNat/10=(qg t).toNat from by omega,show(10*qg t+(((48+j:Nat):Int)-48)).toNat%10=j from by omega,h1]
theorem Bq {s:aF} {v:Int} (h:kZ s=some v):s=decDigits v.toNat/\s.length<=4:=by
 unfold kZ at h
 split at h
 ·rename_i hf
  obtain rfl:=iV h
  simp only[zU,fH,Bool.or_eq_true,eY] at hf
  obtain⟨⟨⟨h1,h2⟩,h3⟩,h4⟩:=hf
  exact⟨(acO (s.length-1) s (by omega) h4 h3).symm,h2⟩
 ·cases h
theorem Py {c:UInt8} (h:iM c=true):digitVal c=some (c.toNat-48):=by
 simp only[iM,fH,eY] at h
 unfold digitVal
 rw[aA h]
theorem TT: ∀(s:aF) (acc:Nat),s.all iM=true-> ∃m:Nat,decFrom acc s=some m/\(m:Int)=s.foldl (fun n c=>10*n+((c.toNat:Int)-48)) (acc:Int):=by
 intro s
 induction s with
 |nil=>intro acc _;exact⟨acc,rfl,rfl⟩
 |cons c s ih=>
  intro acc h
  rw[List.all_cons,fH] at h
  obtain⟨m,h1,h2⟩:=ih (acc*10+(c.toNat-48)) h.2
  have hd:=h.1
  simp only[iM,fH,eY] at hd
  refine⟨m,by rw[decFrom,Py h.1];exact h1,?_⟩
  rw[h2,List.foldl_cons]
  congr 1
  omega
theorem E8 {s:aF} {v:Int} (h:kZ s=some v):atoi s=some v:=by
 unfold kZ at h
 split at h
 ·rename_i hf
  obtain rfl:=iV h
  simp only[zU,fH,Bool.or_eq_true,eY] at hf
  obtain⟨⟨⟨h1,h2⟩,h3⟩,h4⟩:=hf
  cases s with
  |nil=>simp at h1
  |cons c s=>
   have hd:=h4
   rw[List.all_cons,fH] at hd
   have hc:=hd.1
   simp only[iM,fH,eY] at hc
   have n45:(c==45)=false:=by
    rw[iO];rintro rfl;revert hc;decide
   have n43:(c==43)=false:=by
    rw[iO];rintro rfl;revert hc;decide
   obtain⟨m,e1,e2⟩:=TT (c::s) 0 h4
   have e3:atoi (c::s)=(decNat (c::s)).map fun(m:Nat)=>(m:Int):=by
    simp only[atoi,n45,n43,Bool.false_eq_true,if_false]
   rw[e3]
   unfold decNat
   rw[ai (by simp),e1]
   exact congrArg some e2
 ·cases h
theorem Ox {s:aF} {v:Int} (h0:0<=v) (hl:s.length<=4) (he:itoa v=s):kZ s=some v:=by
 unfold itoa at he
 rw[ai (by omega)] at he
 have h1:=aio v.toNat
 rw[he] at h1
 have h2:v.toNat<10000:=fZ h1 (by
  have:=Nat.pow_le_pow_right (show 0<10 by omega) hl
  simpa using this)
 have:=U2 h2
 rw[he] at this
 rw[this]
 congr 1
 omega
theorem ZW {s:aF} {v:Int} (h:kZ s=some v):itoa v=s:=by
 unfold itoa
 have:=(LH h).1
 rw[ai (by omega)]
 exact(Bq h).1.symm
end Go.Proofs.YthbpmepjmebolaaGreatDoor.Bk
end
section
namespace Go.Proofs.YthbpmepjmebolaaGreatDoor.Bk
open jv Go.Lib Go.Proofs.YthbpmepjmebolaaGreatDoor.zF
section
variable (st : jF → Int)
def qR (s:jF) (line:aF):jF×Int:=
 match mO line with
 |none=>(s,4)
 |some (c,n)=>if(iL s c n).1≠0 then(s,(iL s c n).1) else if st (iL s c n).2≠0 then(s,st (iL s c n).2) else((iL s c n).2,0)
def fK:jF->List aF->jF×List Int
 |s,[]=>(s,[])
 |s,l::ls=>((fK (qR st s l).1 ls).1,(qR st s l).2::(fK (qR st s l).1 ls).2)
variable {st}
theorem BX {s:jF} {line:aF} (h:mO line=none):qR st s line=(s,4):=by unfold qR;rw[h]
theorem zA {s:jF} {line:aF} {c:jl} {n:List Int} (h:mO line=some (c,n)):
 qR st s line=if(iL s c n).1≠0 then(s,(iL s c n).1) else if st (iL s c n).2≠0 then(s,st (iL s c n).2) else((iL s c n).2,0):=by unfold qR;rw[h]
theorem Vr {s:jF} {line:aF} (h:(qR st s line).2=0): ∃c n,mO line=some (c,n)/\(iL s c n).1=0/\st (iL s c n).2=0/\qR st s line=((iL s c n).2,0):=by
 cases hp:mO line with
 |none=>rw[BX hp] at h;cases h
 |some x=>
  obtain⟨c,n⟩:=x
  rw[zA hp] at h⊢
  split at h
  ·rename_i h1;exact absurd h h1
  ·rename_i h1
   split at h
   ·rename_i h2;exact absurd h h2
   ·rename_i h2
    rw[ai h1,ai h2]
    exact⟨c,n,rfl,by simpa using h1,by simpa using h2,rfl⟩
theorem adK {s:jF} {line:aF} (h:(qR st s line).2≠0):(qR st s line).1=s:=by
 cases hp:mO line with
 |none=>rw[BX hp]
 |some x=>
  obtain⟨c,n⟩:=x
  rw[zA hp] at h⊢
  split
  ·rfl
  ·rename_i h1
   split
   ·rfl
   ·rename_i h2
    rw[ai h1,ai h2] at h
    exact absurd rfl h
theorem acM {s:jF} (hG:gu s) (line:aF):gu (qR st s line).1:=by
 by_cases h:(qR st s line).2=0
 ·obtain⟨c,n,h1,h2,_,h4⟩:=Vr h
  rw[h4]
  exact abb hG c (ni h1).2.2.1 h2
 ·rw[adK h];exact hG
theorem XF {s:jF} (hs:st s=0) (line:aF):st (qR st s line).1=0:=by
 by_cases h:(qR st s line).2=0
 ·obtain⟨c,n,_,_,h3,h4⟩:=Vr h
  rw[h4];exact h3
 ·rw[adK h];exact hs
theorem JK: ∀(ls:List aF) {s:jF},gu s->gu (fK st s ls).1:=by
 intro ls
 induction ls with
 |nil=>intro s h;exact h
 |cons l ls ih=>intro s h;exact ih (acM h l)
theorem Oe: ∀(ls:List aF) {s:jF},st s=0->st (fK st s ls).1=0:=by
 intro ls
 induction ls with
 |nil=>intro s h;exact h
 |cons l ls ih=>intro s h;exact ih (XF h l)
theorem Gm: ∀(ls:List aF) (s:jF),(fK st s ls).2.length=ls.length:=by
 intro ls
 induction ls with
 |nil=>intro s;rfl
 |cons l ls ih=>intro s;simp[fK,ih]
theorem Og: ∀(a b:List aF) (s:jF),fK st s (a++b)=((fK st (fK st s a).1 b).1,(fK st s a).2++(fK st (fK st s a).1 b).2):=by
 intro a
 induction a with
 |nil=>intro b s;rfl
 |cons x a ih=>intro b s;simp only[List.cons_append,fK,ih]
theorem Df (ls:List aF) (l:aF) (s:jF):fK st s (ls++[l])=((qR st (fK st s ls).1 l).1,(fK st s ls).2++[(qR st (fK st s ls).1 l).2]):=by
 rw[Og];rfl
end
def qL (w:aF) (ns:List Nat):aF:=ns.foldl (fun l k=>l++(32::decDigits k)) w
theorem QS (a:aF) (k:Nat):bG (a++(32::decDigits k))=bG a++[decDigits k]:=by
 induction a with
 |nil=>rw[List.nil_append,show bG (32::decDigits k)=[]::bG (decDigits k) from by rw[bG,aA rfl],FX _ (PI k)];rfl
 |cons c a ih=>
  rw[List.cons_append,bG,bG,ih]
  split
  ·rfl
  ·cases hw:bG a with
   |nil=>exact absurd hw (jH a)
   |cons x y=>rfl
theorem Nz: ∀(ns:List Nat) (w:aF),bG (qL w ns)=bG w++ns.map decDigits:=by
 intro ns
 induction ns with
 |nil=>intro w;simp[qL]
 |cons k ns ih=>
  intro w
  show bG (qL (w++(32::decDigits k)) ns)=_
  rw[ih,QS]
  simp
theorem ZE: ∀(ns:List Nat),(∀k∈ns,k<10000)->kN (ns.map decDigits)=some (ns.map fun(k:Nat)=>(k:Int)):=by
 intro ns
 induction ns with
 |nil=>intro _;rfl
 |cons k ns ih=>
  intro h
  rw[List.map_cons,List.map_cons,kN,U2 (h k (by simp)),Option.bind_some,ih (fun x hx=>h x (by simp[hx]))]
  rfl
theorem IV (c:jl): ∀x∈c.word,x≠32:=by cases c <;>decide
theorem wM (c:jl) (ns:List Nat) (hl:ns.length=c.many) (h: ∀k∈ns,k<10000):mO (qL c.word ns)=some (c,ns.map fun(k:Nat)=>(k:Int)):=by
 unfold mO
 rw[Nz,FX _ (IV c)]
 simp only[List.singleton_append,List.headD_cons,List.tail_cons,AP,Option.bind_some,lN]
 rw[aA hl,ZE ns h]
 rfl
end Go.Proofs.YthbpmepjmebolaaGreatDoor.Bk
end
section
namespace Go.Proofs.YthbpmepjmebolaaGreatDoor.Bk
open jv Go.Lib Go.Proofs.YthbpmepjmebolaaGreatDoor.zF
theorem vX {last:Int} {p:Int->Bool} {i:Int}:i∈gI last p↔(0<=i/\i<=last)/\p i=true:=by
 unfold gI
 rw[List.mem_filter,iZ]
 constructor
 ·rintro⟨⟨k,hk,rfl⟩,hp⟩
  have:=lM.1 hk
  exact⟨by omega,hp⟩
 ·rintro⟨h,hp⟩
  exact⟨⟨i.toNat,lM.2 (by omega),by omega⟩,hp⟩
theorem O6 {last:Int} {p q:Int->Bool} (h: ∀i,0<=i->i<=last->p i=q i):gI last p=gI last q:=by
 unfold gI
 refine List.filter_congr fun i hi=>?_
 obtain⟨k,hk,rfl⟩:=iZ.1 hi
 have:=lM.1 hk
 exact h _ (by omega) (by omega)
theorem tN {last:Int} {p:Int->Bool} {i:Int} (h0:0<=i) (h1:i<=last):(gI last p).contains i=p i:=by
 rw[Bool.eq_iff_iff,List.contains_iff_mem,vX]
 exact⟨fun h=>h.2,fun h=>⟨⟨h0,h1⟩,h⟩⟩
theorem xg {α:Type} (l:List α) (x:α):(l++[x]).eraseIdx l.length=l:=by
 rw[List.eraseIdx_append_of_length_le (ak _)];simp
def rM (s:jF) (line:aF):Option aF:=
 let w:=(bG line).headD []
 if w=jl.tally.word then some (qL jl.kF.word [s.led.field.ax.length])
 else if w=jl.note.word then some (qL jl.void.word [s.led.notes.length])
 else if w=jl.turn.word then some (117::110::line)
 else if w=jl.xN.word then some (qL jl.unread.word [s.heap.readings.length])
 else if w=jl.xK.word then some (qL jl.qJ.word [s.dn.aK.length])
 else none
theorem Zr {line:aF} {n:List Int} (h:mO line=some (.turn,n)):mO (117::110::line)=some (.mY,n):=by
 obtain⟨h1,h2,_,h4⟩:=ni h
 have hw:bG (117::110::line)=(117::110::(bG line).headD [])::(bG line).tail:=by
  rw[bG,ai (by decide),bG,ai (by decide)];rfl
 unfold mO
 rw[hw]
 simp only[List.headD_cons,List.tail_cons,h1]
 rw[show(117::110::jl.turn.word)=jl.mY.word from rfl,AP,Option.bind_some,h4]
 have:(bG line).tail.length=jl.mY.many:=by rw[<-zq h4,h2];rfl
 rw[aA this]
 rfl
variable {st : jF → Int}
theorem Y3 {s:jF} (hG:gu s) (hs:st s=0) {line:aF} (h:(qR st s line).2=0) {back:aF} (hb:rM s line=some back):
 qR st (qR st s line).1 back=(s,0):=by
 obtain⟨c,n,h1,h2,h3,h4⟩:=Vr h
 obtain⟨p1,p2,p3,p4⟩:=ni h1
 rw[h4]
 unfold rM at hb
 simp only[p1] at hb
 have fin: ∀{d:jl} {m:List Int},mO back=some (d,m)->iL (iL s c n).2 d m=(0,s)->qR st (iL s c n).2 back=(s,0):=fun {d m} hp ha=>by
  rw[zA hp,ha]
  simp[hs]
 have e5: ∀{a:Nat},a<=5-> ∀k∈[a],k<10000:=fun ha k hk=>by obtain rfl:=eU.1 hk;omega
 cases c <;>simp[jl.word] at hb
 case tally=>
  obtain rfl:=hb
  refine fin (wM .kF _ rfl (e5 hG.Ae)) ?_
  have ha: ∃x,(iL s .tally n).2=kR s (s.led.field.ax++[x]):=by
   simp only[iL] at h2⊢
   repeat' (split at h2;· omega)
   rename_i a1 a2 a3 a4 a5
   rw[ai a1,ai a2,ai a3,ai a4,ai a5]
   exact⟨_,rfl⟩
  obtain⟨x,ha⟩:=ha
  rw[ha]
  simp only[iL,List.map_cons,List.map_nil,List.getD_cons_zero,Int.toNat_natCast]
  rw[ai (by simp[kR];omega)]
  simp[kR,xg]
 case note=>
  obtain rfl:=hb
  refine fin (wM .void _ rfl (e5 hG.notes)) ?_
  have ha: ∃x,(iL s .note n).2=kV s (s.led.notes++[x]):=by
   simp only[iL] at h2⊢
   repeat' (split at h2;· omega)
   rename_i a1 a2 a3
   rw[ai a1,ai a2,ai a3]
   exact⟨_,rfl⟩
  obtain⟨x,ha⟩:=ha
  rw[ha]
  simp only[iL,List.map_cons,List.map_nil,List.getD_cons_zero,Int.toNat_natCast]
  rw[ai (by simp[kV];omega)]
  simp[kV,xg]
 case turn=>
  obtain rfl:=hb
  refine fin (Zr h1) ?_
  have n0:=BN p3 0
  obtain⟨p,hp⟩:=hG.turns
  have hl:=hG.heap.1
  have ha:s.heap.turns.contains (n.getD 0 0)=false/\n.getD 0 0<=s.heap.last/\(iL s .turn n).2=gU s {s.heap with turns:=gI s.heap.last fun i=>i==n.getD 0 0 ||s.heap.turns.contains i}:=by
   simp only[iL] at h2⊢
   repeat' (split at h2;· omega)
   rename_i a1 a2
   rw[ai a1,ai a2]
   exact⟨by simpa using a2,by omega,rfl⟩
  obtain⟨a2,a1,ha⟩:=ha
  have he:gI s.heap.last (fun i=>i !=n.getD 0 0&&(gI s.heap.last fun i=>i==n.getD 0 0 ||s.heap.turns.contains i).contains i)=s.heap.turns:=by
   refine Eq.trans (O6 fun i i0 i1=>?_) (show gI s.heap.last p=s.heap.turns by rw[hl,hp])
   rw[tN i0 i1]
   have hc:s.heap.turns.contains i=p i:=by rw[hp];exact tN i0 (by omega)
   rw[<-hc]
   by_cases hi:i=n.getD 0 0
   ·subst hi
    rw[a2];simp
   ·rw[show(i !=n.getD 0 0)=true from by simpa [bne_iff_ne] using hi,show(i==n.getD 0 0)=false from iO.2 hi];simp
  have hc:(gI s.heap.last fun i=>i==n.getD 0 0 ||s.heap.turns.contains i).contains (n.getD 0 0)=true:=by
   rw[tN n0.1 a1];simp
  rw[ha]
  show(if(gI s.heap.last fun i=>i==n.getD 0 0 ||s.heap.turns.contains i).contains (n.getD 0 0)=false then _ else _)=_
  rw[hc,ai (by simp)]
  show(0,gU s {s.heap with turns:=gI s.heap.last (fun i=>i !=n.getD 0 0&&(gI s.heap.last fun i=>i==n.getD 0 0 ||s.heap.turns.contains i).contains i)})=_
  rw[he]
  rfl
 case xN=>
  obtain rfl:=hb
  refine fin (wM .unread _ rfl (e5 hG.reads)) ?_
  have ha: ∃x,(iL s .xN n).2=gU s {s.heap with readings:=s.heap.readings++[x]}:=by
   simp only[iL] at h2⊢
   repeat' (split at h2;· omega)
   rename_i a1 a2 a3
   rw[ai a1,ai a2,ai a3]
   exact⟨_,rfl⟩
  obtain⟨x,ha⟩:=ha
  rw[ha]
  simp only[iL,List.map_cons,List.map_nil,List.getD_cons_zero,Int.toNat_natCast]
  rw[ai (by simp[gU];omega)]
  simp[gU,xg]
 case xK=>
  obtain rfl:=hb
  refine fin (wM .qJ _ rfl (e5 hG.aK)) ?_
  have ha: ∃x,(iL s .xK n).2=fC s {s.dn with aK:=s.dn.aK++[x]}:=by
   simp only[iL] at h2⊢
   repeat' (split at h2;· omega)
   rename_i a1 a2 a3
   rw[ai a1,ai a2,ai a3]
   exact⟨_,rfl⟩
  obtain⟨x,ha⟩:=ha
  rw[ha]
  simp only[iL,List.map_cons,List.map_nil,List.getD_cons_zero,Int.toNat_natCast]
  rw[ai (by simp[fC];omega)]
  simp[fC,xg]
end Go.Proofs.YthbpmepjmebolaaGreatDoor.Bk
end
section
namespace Go.Proofs.YthbpmepjmebolaaGreatDoor.Bk
open Go.RowKit Go.RG Go.SL Go.Shelf jv Go.TB
def dL (l:List Bool):List Value:=l.map fun b=> .bool b
abbrev CU (w:World) (v:Value) (l:List Bool):Prop:=aN 1 w v l.length (dL l)
theorem CU.cell {w:World} {o:Option Addr} {n c:Nat} {l:List Bool} (h:aN 1 w (.slice o n c) n (dL l)) {k:Nat} (hk:k<l.length): ∃b off,o=some ⟨b,off,none⟩/\b<w.heap.size/\w.cell? ⟨b,off+k,none⟩=some (.bool l[k]):=by
 obtain⟨hl,o',c',hv,h1,h2,h3,h4⟩:=h
 cases hv
 have hlen:(dL l).length=l.length:=by simp[dL]
 cases o with
 |none=>have:=h3 rfl;omega
 |some a=>
  obtain⟨b,off,sp⟩:=a
  obtain⟨hs,hc⟩:=h4 _ rfl
  simp only at hs hc
  subst hs
  have h0:=hc k (.bool l[k]) (by simp[dL,hk])
  exact⟨b,off,rfl,dN w _ h0,h0⟩
theorem Jl (l:List Bool) (v:Value) (w:World) (hv:CU w v l):Calls Tryz.prog 197 #[v,.bool true] w (PV (.bool (l.contains true)) w):=by
 have hidx:Calls Tryz.prog 263 #[v,.bool true] w (fun e w'=>w=w'/\((l.contains true=true/\ ∃k:Nat,k<l.length/\e= .returned (iv k))∨(l.contains true=false/\e= .returned (iv (-1))))):=by
  have hlen:=aN.len hv
  obtain⟨o,c,rfl⟩:=aN.open hv
  have HV:=ae hv
  clear hv
  go_enter Tryz.func263,Tryz.ntmps263
  go_wp2
  go_loop [4,5,8] (fun _ _ i=> ∃k:Nat,k<=l.length/\i= .int .i64 k/\(∀j (hj:j<l.length),j<k->l[j]=false)) (fun _ _ i=>l.length-(intOf i).toNat)
  case atStart=>exact⟨0,bU _,rfl,fun j _ hj=>by omega⟩
  case round=>
   obtain⟨k,hk,rfl,hno⟩:=hrel
   have HN:=ae hno
   clear hno
   by_cases hlt:k<l.length
   ·obtain⟨b,off,rfl,hb,hc0⟩:=CU.cell HV.o hlt
    cases he:l[k]
    ·rw[he] at hc0
     have HE:=ae he
     clear he
     go_wp2
     go_round
     case rel=>exact⟨k+1,by omega,by go_num,fun j hj hjk=>(by by_cases e:j=k;(subst e;exact HE.o);exact HN.o j hj (by omega))⟩
     case measure=>simp[intOf];omega
    ·rw[he] at hc0
     have HE:=ae he
     clear he
     go_wp2
     go_returns
     exact⟨rfl,.inl ⟨by first|exact HE.o▸cZ hlt|(rw[List.contains_iff_mem, <-HE.o];exact cZ _),k,hlt,by simp⟩⟩
   ·have hkl:k=l.length:=by omega
    go_wp2
    go_returns
    refine⟨rfl,.inr ⟨?_,by simp⟩⟩
    (try rw[<-Bool.not_eq_true,List.contains_iff_mem])
    intro hm
    obtain⟨j,hj,e⟩:=mJ hm
    have:=HN.o j hj (by omega)
    rw[this] at e
    cases e
 have HI:=ae hidx
 clear hidx
 go_enter Tryz.func197,Tryz.ntmps197
 go_wp2_with fail
 refine HI.o.mono ?_
 rintro e w' ⟨rfl,⟨hc,k,hk,rfl⟩|⟨hc,rfl⟩⟩
 ·have HC:=ae hc
  clear hc
  go_wp2_with fail
  go_returns
  exact⟨by rw[HC.o];simp,aG _ _⟩
 ·have HC:=ae hc
  clear hc
  go_wp2_with fail
  go_returns
  exact⟨by rw[HC.o];simp,aG _ _⟩
abbrev kG (code:Int):List PanicEntry:=[{v:= .iface 200 (.agg #[iv code]),recovered:=false}]
def Ut (code:Int) (c:Bool) (w:World) (e:Ending) (w':World):Prop:=
 Below w.heap.size w w'/\((c=false/\e= .returned (.tuple #[]))∨(c=true/\e= .panicked (kG code)))
theorem Rx (code:Int) (l:List Bool) (v:Value) (w:World) (hv:CU w v l):Calls Tryz.prog 112 #[iv code,v] w (Ut code (l.contains true) w):=by
 have H:=ae (Jl l v w hv)
 obtain⟨o,c,rfl⟩:=aN.open hv
 clear hv
 cases hq:l.contains true
 ·rw[hq] at H
  clear hq
  go_enter Tryz.func112,Tryz.ntmps112
  go_wp2_with fail
  refine H.o.mono ?_
  rintro e w' ⟨rfl,hb⟩
  go_wp2_with fail
  go_end0
  exact⟨hb,.inl ⟨rfl,by simp⟩⟩
 ·rw[hq] at H
  clear hq
  go_enter Tryz.func112,Tryz.ntmps112
  go_wp2_with fail
  refine H.o.mono ?_
  rintro e w' ⟨rfl,hb⟩
  go_wp2_with fail
  exact⟨rfl,hb,.inr ⟨rfl,rfl⟩⟩
def gQ:jl->Nat
 | .row=>176
 | .left=>177
 | .tally=>178
 | .Be=>179
 | .kF=>180
 | .rate=>181
 | .box=>182
 | .note=>183
 | .void=>184
 | .start=>185
 | .bW=>186
 | .turn=>187
 | .mY=>188
 | .xN=>189
 | .unread=>190
 | .heap=>191
 | .strong=>192
 | .qh=>193
 | .fill=>194
 | .xK=>195
 | .qJ=>196
abbrev WE:=Nat×Nat
abbrev wev (e:WE):Value:= .agg #[iv e.1,.func (.func e.2) #[] #[]]
abbrev VU (s:ByteArray):Value:= .string s
abbrev iq (c:jl):ByteArray:=⟨c.word.toArray⟩
def Rh:List (ByteArray×WE):=MZ.map fun c=>(iq c,(c.many,gQ c))
theorem ZP (s:ByteArray): ∀l:List jl,TB.look s (l.map fun c=>(iq c,(c.many,gQ c)))=(l.find? fun c=>c.word==s.data.toList).map fun c=>(c.many,gQ c):=by
 intro l
 induction l with
 |nil=>rfl
 |cons c l ih=>
  rw[List.map_cons,TB.look,List.find?_cons,ih]
  by_cases h:s=iq c
  ·subst h
   have:(c.word==(iq c).data.toList)=true:=by simp[iq]
   rw[aA rfl,this]
   rfl
  ·have:(c.word==s.data.toList)=false:=by
    rw[iO]
    intro e
    refine h ?_
    cases s with
    |mk a=>simp only[iq] at*;rw[e]
   rw[ai h,this]
theorem ZO (s:ByteArray):TB.look s Rh=(ug s.data.toList).map fun c=>(c.many,gQ c):=ZP s MZ
theorem Kw (k:TypeId) (hk:Tryz.prog.underlying k=some .string) (a b:ByteArray) (w:World):(Op.equal k (.string a) (.string b)).run Tryz.prog w= .ok (decide (a=b)) w:=by
 unfold Op.equal Op.maxDepth
 simp only[go_sem,hk]
 rw[show(a.toList==b.toList)=decide (a=b) from by rw[Bool.eq_iff_iff,Lib.bytes_beq_iff,eY]]
theorem Sj (k:TypeId) (hk:Tryz.prog.underlying k=some .string) (x:Value) (w:World): ∀(es:List MapEntry) (i:Nat) (r:Option (Nat×Value)),Instr.findNow .string x es i=some r->(Instr.findAsking k x es i).run Tryz.prog w= .ok r w:=by
 intro es
 induction es with
 |nil=>intro i r h;simp only[Instr.findNow,Option.some.injEq] at h;subst h;rfl
 |cons e es ih=>
  intro i r h
  unfold Instr.findNow at h
  cases hs:Instr.sameNow .string x e.key with
  |none=>rw[hs] at h;cases h
  |some b=>
   rw[hs] at h
   obtain⟨a,c,hx,hc,hb⟩: ∃a c:ByteArray,x= .string a/\e.key= .string c/\b=decide (a=c):=by
    revert hs
    cases x <;>cases e.key <;>simp[Instr.sameNow]
    rename_i a c
    intro h
    rw[<-h]
    rw[Bool.eq_iff_iff,Go.MapKept.bytes_beq,eY]
   subst hx
   conv=>lhs;unfold Instr.findAsking
   simp only[Sem.run_bind,hc,Kw k hk a c w,Result.andThen_ok]
   cases b
   ·rw[<-hb]
    simp only[Bool.false_eq_true,if_false]
    exact ih (i+1) r h
   ·rw[<-hb]
    simp only[Option.some.injEq] at h
    subst h
    simp
theorem uF:Yq Tryz.prog 9 VU (fun _=>True) where
 find w x es:=by
  have hk:Tryz.prog.underlying 9=some .string:=by kernel_rfl
  cases hn:Instr.findNow .string x es 0 with
  |none=>simp[Instr.findKey,run_underlying hk,hn]
  |some r=>
   rw[Sj 9 hk x w es 0 r hn]
   simp[Instr.findKey,run_underlying hk,hn]
 check b a w _:=by
  unfold Instr.checkKey
  simp[go_sem]
 eq a b w _ _:=Kw _ (by kernel_rfl) a b w
 bits a _:=by simp only[Instr.sameBits];exact(Go.MapKept.bytes_beq a a).2 rfl
theorem abP:TB.store (iq .qJ) (jl.many .qJ,gQ .qJ) (TB.store (iq .xK) (jl.many .xK,gQ .xK) (TB.store (iq .fill) (jl.many .fill,gQ .fill) (TB.store (iq .qh) (jl.many .qh,gQ .qh) (TB.store (iq .strong) (jl.many .strong,gQ .strong) (TB.store (iq .heap) (jl.many .heap,gQ .heap) (TB.store (iq .unread) (jl.many .unread,gQ .unread) (TB.store (iq .xN) (jl.many .xN,gQ .xN) (TB.store (iq .mY) (jl.many .mY,gQ .mY) (TB.store (iq .turn) (jl.many .turn,gQ .turn) (TB.store (iq .bW) (jl.many .bW,gQ .bW) (TB.store (iq .start) (jl.many .start,gQ .start) (TB.store (iq .void) (jl.many .void,gQ .void) (TB.store (iq .note) (jl.many .note,gQ .note) (TB.store (iq .box) (jl.many .box,gQ .box) (TB.store (iq .rate) (jl.many .rate,gQ .rate) (TB.store (iq .kF) (jl.many .kF,gQ .kF) (TB.store (iq .Be) (jl.many .Be,gQ .Be) (TB.store (iq .tally) (jl.many .tally,gQ .tally) (TB.store (iq .left) (jl.many .left,gQ .left) (TB.store (iq .row) (jl.many .row,gQ .row) ([])))))))))))))))))))))=Rh:=by
 decide+kernel
def afr (w:World) (e:Ending) (w':World):Prop:= ∃mb,e= .returned (.map (some mb))/\w.heap.size<=mb/\TabAt VU wev (fun _=>True) w' mb Rh/\Below w.heap.size w w'
theorem VI (w:World):Calls Tryz.prog 111 #[] w (afr w):=by
 have hmm:= @run_makeMap Tryz.prog
 have hm:Tryz.prog.underlying 206=some (.map 9 204):=by kernel_rfl
 have h0:TabAt VU wev (fun _=>True) (w.alloc (.map #[] 0)) w.heap.size []:=LM (ay _ _)
 obtain⟨W1,r1,t1,e1⟩:=fV uF hm h0 (iq .row) trivial (jl.many .row,gQ .row)
 obtain⟨W2,r2,t2,e2⟩:=fV uF hm t1 (iq .left) trivial (jl.many .left,gQ .left)
 obtain⟨W3,r3,t3,e3⟩:=fV uF hm t2 (iq .tally) trivial (jl.many .tally,gQ .tally)
 obtain⟨W4,r4,t4,e4⟩:=fV uF hm t3 (iq .Be) trivial (jl.many .Be,gQ .Be)
 obtain⟨W5,r5,t5,e5⟩:=fV uF hm t4 (iq .kF) trivial (jl.many .kF,gQ .kF)
 obtain⟨W6,r6,t6,e6⟩:=fV uF hm t5 (iq .rate) trivial (jl.many .rate,gQ .rate)
 obtain⟨W7,r7,t7,e7⟩:=fV uF hm t6 (iq .box) trivial (jl.many .box,gQ .box)
 obtain⟨W8,r8,t8,e8⟩:=fV uF hm t7 (iq .note) trivial (jl.many .note,gQ .note)
 obtain⟨W9,r9,t9,e9⟩:=fV uF hm t8 (iq .void) trivial (jl.many .void,gQ .void)
 obtain⟨Un,r10,t10,e10⟩:=fV uF hm t9 (iq .start) trivial (jl.many .start,gQ .start)
 obtain⟨W11,r11,t11,e11⟩:=fV uF hm t10 (iq .bW) trivial (jl.many .bW,gQ .bW)
 obtain⟨YQ,r12,t12,e12⟩:=fV uF hm t11 (iq .turn) trivial (jl.many .turn,gQ .turn)
 obtain⟨W13,r13,t13,e13⟩:=fV uF hm t12 (iq .mY) trivial (jl.many .mY,gQ .mY)
 obtain⟨Vw,r14,t14,e14⟩:=fV uF hm t13 (iq .xN) trivial (jl.many .xN,gQ .xN)
 obtain⟨Yi,r15,t15,e15⟩:=fV uF hm t14 (iq .unread) trivial (jl.many .unread,gQ .unread)
 obtain⟨W16,r16,t16,e16⟩:=fV uF hm t15 (iq .heap) trivial (jl.many .heap,gQ .heap)
 obtain⟨W17,r17,t17,e17⟩:=fV uF hm t16 (iq .strong) trivial (jl.many .strong,gQ .strong)
 obtain⟨W18,r18,t18,e18⟩:=fV uF hm t17 (iq .qh) trivial (jl.many .qh,gQ .qh)
 obtain⟨W19,r19,t19,e19⟩:=fV uF hm t18 (iq .fill) trivial (jl.many .fill,gQ .fill)
 obtain⟨W20,r20,t20,e20⟩:=fV uF hm t19 (iq .xK) trivial (jl.many .xK,gQ .xK)
 obtain⟨W21,r21,t21,e21⟩:=fV uF hm t20 (iq .qJ) trivial (jl.many .qJ,gQ .qJ)
 rw[abP] at t21
 have hE:Ext [w.heap.size] (w.alloc (.map #[] 0)) W21:=(e1.trans (e2.trans (e3.trans (e4.trans (e5.trans (e6.trans (e7.trans (e8.trans (e9.trans (e10.trans (e11.trans (e12.trans (e13.trans (e14.trans (e15.trans (e16.trans (e17.trans (e18.trans (e19.trans (e20.trans e21))))))))))))))))))))
 have HB:=ae (show Below w.heap.size w W21 from(aj (aG _ _) _).trans ⟨hE.os,hE.tape,hE.output,hE.size,fun b hb=>hE.block b (by simp;omega) (by simp;omega)⟩)
 have HT:=ae t21
 have HE:Hid (w.heap.size<=w.heap.size):=ae (ak _)
 clear h0 hE hm t1 t2 t3 t4 t5 t6 t7 t8 t9 t10 t11 t12 t13 t14 t15 t16 t17 t18 t19 t20 t21 e1 e2 e3 e4 e5 e6 e7 e8 e9 e10 e11 e12 e13 e14 e15 e16 e17 e18 e19 e20 e21
 simp only[iq,jl.word,jl.many,gQ,VU,wev,iv,Int.cast_ofNat_Int,Int.natCast_zero,Int.natCast_one] at r1 r2 r3 r4 r5 r6 r7 r8 r9 r10 r11 r12 r13 r14 r15 r16 r17 r18 r19 r20 r21
 go_enter Tryz.func111,Tryz.ntmps111
 go_wp2
 go_returns
 exact⟨_,by simp,ak _,HT.o,HB.o⟩
theorem Qk {w:World} {b n:Nat} {l:List Bool} {cs:Array Value} {t:TypeId} (h:w.heap[b]? =some (.cells cs t (0,0))) (hc:cs.toList=dL l) (hn:n=l.length) (hm:l.length<=100):CU w (.slice (some ⟨b,0,none⟩) n n) l:=by
 subst hn
 refine⟨by simp[dL],_,_,rfl,ak _,by simp only[maxLen];omega,(fun h=>by cases h),fun a ha=>?_⟩
 cases ha
 refine⟨rfl,?_⟩
 rw[<-hc]
 exact yl h
theorem dZ (code:Int) (l:List Bool) (w:World) (hm:l.length<=100) (cs:Array Value) (hc:cs.toList=dL l) (t:TypeId) (n:Nat) (hn:n=l.length):
 Calls Tryz.prog 112 #[iv code,.slice (some ⟨w.heap.size,0,none⟩) n n] (w.alloc (.cells cs t)) (Ut code (l.contains true) w):=by
 refine(Rx code l _ _ (Qk (ay _ _) hc hn hm)).mono ?_
 rintro e w' ⟨hb,h⟩
 exact⟨aY (aj (aG _ _) _) hb,h⟩
theorem qM (a b:Int) (w:World):Calls Tryz.prog 249 #[iv a,iv b] w (Ut 3 (decide (b<=a)) w):=by
 go_enter Tryz.func249,Tryz.ntmps249
 go_wp2_with fail
 refine(dZ 3 [decide (b<=a)] w (by simp) _ (by simp[dL]) _ _ rfl).mono ?_
 rintro e w1 ⟨hb,⟨hc,rfl⟩|⟨hc,rfl⟩⟩
 ·(try go_wp2_with fail)
  go_end0
  exact⟨hb,.inl ⟨by simpa using hc,rfl⟩⟩
 ·exact⟨rfl,hb,.inr ⟨by simpa using hc,rfl⟩⟩
theorem jk (a b:Int) (w:World):Calls Tryz.prog 251 #[iv a,iv b] w (Ut 7 (decide (b<=a)) w):=by
 go_enter Tryz.func251,Tryz.ntmps251
 go_wp2_with fail
 refine(dZ 7 [decide (b<=a)] w (by simp) _ (by simp[dL]) _ _ rfl).mono ?_
 rintro e w1 ⟨hb,⟨hc,rfl⟩|⟨hc,rfl⟩⟩
 ·(try go_wp2_with fail)
  go_end0
  exact⟨hb,.inl ⟨by simpa using hc,rfl⟩⟩
 ·exact⟨rfl,hb,.inr ⟨by simpa using hc,rfl⟩⟩
theorem Gj (a b m:Int) (w:World):Calls Tryz.prog 288 #[iv a,iv b,iv m] w (Ut 2 (decide (b<a) ||decide (m<b)) w):=by
 go_enter Tryz.func288,Tryz.ntmps288
 go_wp2_with fail
 refine(dZ 2 [decide (b<a),decide (m<b)] w (by simp) _ (by simp[dL]) _ _ rfl).mono ?_
 rintro e w1 ⟨hb,⟨hc,rfl⟩|⟨hc,rfl⟩⟩
 ·(try go_wp2_with fail)
  go_end0
  exact⟨hb,.inl ⟨by simpa using hc,rfl⟩⟩
 ·exact⟨rfl,hb,.inr ⟨by simpa using hc,rfl⟩⟩
theorem Ai (a b m k:Int) (w:World) (hx:0<=a/\a<=100000/\0<=k/\k<=100000):Calls Tryz.prog 255 #[iv a,iv b,iv m,iv k] w (Ut 2 (decide (b<a) ||(decide (m<b) ||decide (a+k<b))) w):=by
 go_enter Tryz.func255,Tryz.ntmps255
 go_wp2_with fail
 refine(dZ 2 [decide (b<a),decide (m<b),decide (a+k<b)] w (by simp) _ (by simp[dL]) _ _ rfl).mono ?_
 rintro e w1 ⟨hb,⟨hc,rfl⟩|⟨hc,rfl⟩⟩
 ·(try go_wp2_with fail)
  go_end0
  exact⟨hb,.inl ⟨by simpa using hc,rfl⟩⟩
 ·exact⟨rfl,hb,.inr ⟨by simpa using hc,rfl⟩⟩
end Go.Proofs.YthbpmepjmebolaaGreatDoor.Bk
end
section
namespace Go.Proofs.YthbpmepjmebolaaGreatDoor.Bk
open Go.RowKit Go.RG Go.SL Go.Shelf jv Go.TB Go.Proofs.YthbpmepjmebolaaGreatDoor.zF
structure Row where
 t:TypeId
 size:Nat
 v:Value
 n:Nat
 xs:List Value
structure xQ (N:Nat) (w:World) (wb:Nat) (R:List Row):Prop where
 own: ∀(i:Nat) (r:Row),R[i]? =some r->w.ownsRow N r.t r.size r.v r.n r.xs
 apart: ∀(i j:Nat) (a b:Row),R[i]? =some a->R[j]? =some b->i≠j->a.v.ownBlock=none∨a.v.ownBlock≠b.v.ownBlock
 off: ∀(i:Nat) (r:Row),R[i]? =some r->r.v.ownBlock≠some wb
 lt:wb<w.heap.size
 base:N<=wb
theorem dQ {w W:World} {N:Nat} {t:TypeId} {size:Nat} {v:Value} {n:Nat} {xs:List Value} (h:w.ownsRow N t size v n xs) {Ms:List Nat} (hE:Ext Ms w W) (hM: ∀b,v.ownBlock=some b->b∉Ms):W.ownsRow N t size v n xs:=by
 obtain⟨h1,h2|⟨g,c,cs,rfl,hb,hc,h3⟩⟩:=h
 ·exact⟨h1,.inl h2⟩
 ·exact⟨h1,.inr ⟨g,c,cs,rfl,hb,(hE.block g (aV.1 hc).1 (hM g rfl)).trans hc,h3⟩⟩
theorem xQ.keep {N:Nat} {w W:World} {wb:Nat} {R:List Row} (h:xQ N w wb R) {Ms:List Nat} (hE:Ext Ms w W) (hM: ∀m∈Ms,m=wb∨m<N):xQ N W wb R where
 own i r hr:=dQ (h.own i r hr) hE (fun b hb hm=>by
  rcases hM b hm with rfl|h1
  ·exact h.off i r hr hb
  ·have:=((h.own i r hr).lt b hb).1;omega)
 apart:=h.apart
 off:=h.off
 lt:=fZ h.lt hE.size
 base:=h.base
theorem xQ.put {N:Nat} {w W:World} {wb:Nat} {R:List Row} (h:xQ N w wb R) {i:Nat} {r:Row} (hr:R[i]? =some r) (r':Row) {Ms:List Nat} (hE:Ext Ms w W) (hM: ∀m∈Ms,m=wb∨m<N∨r.v.ownBlock=some m)
 (ho:W.ownsRow N r'.t r'.size r'.v r'.n r'.xs) (hb:r'.v.ownBlock=r.v.ownBlock∨r'.v.ownBlock=none∨ ∃k,r'.v.ownBlock=some k/\w.heap.size<=k):xQ N W wb (R.set i r'):=by
 have hlt:=(ji.1 hr).1
 have key: ∀(j:Nat) (x:Row),(R.set i r')[j]? =some x->(j=i/\x=r')∨(j≠i/\R[j]? =some x):=by
  intro j x hx
  rw[List.getElem?_set] at hx
  by_cases e:i=j
  ·subst e
   rw[aA rfl,aA hlt] at hx
   exact .inl ⟨rfl,(iV hx).symm⟩
  ·rw[ai e] at hx
   exact .inr ⟨fun h=>e h.symm,hx⟩
 have new: ∀(j:Nat) (x:Row),R[j]? =some x->j≠i->x.v.ownBlock=none∨x.v.ownBlock≠r'.v.ownBlock:=by
  intro j x hx hj
  rcases hb with hb|hb|⟨k,hk,hs⟩
  ·rw[hb];exact h.apart j i x r hx hr hj
  ·rw[hb]
   cases x.v.ownBlock with
   |none=>exact .inl rfl
   |some b=>exact .inr (by simp)
  ·rw[hk]
   cases hxb:x.v.ownBlock with
   |none=>exact .inl rfl
   |some b=>
    refine .inr fun e=>?_
    obtain rfl:=iV e
    have:=((h.own j x hx).lt b hxb).2
    omega
 refine⟨fun j x hx=>?_,fun j k a b ha hbb hjk=>?_,fun j x hx=>?_,fZ h.lt hE.size,h.base⟩
 ·rcases key j x hx with⟨rfl,rfl⟩|⟨hj,hx'⟩
  ·exact ho
  ·refine dQ (h.own j x hx') hE (fun b hbb hm=>?_)
   rcases hM b hm with rfl|h1|h1
   ·exact h.off j x hx' hbb
   ·have:=((h.own j x hx').lt b hbb).1;omega
   ·rcases h.apart j i x r hx' hr hj with h2|h2
    ·rw[h2] at hbb;cases hbb
    ·exact h2 (hbb.trans h1.symm)
 ·rcases key j a ha with⟨rfl,rfl⟩|⟨hj,ha'⟩
  ·rcases key k b hbb with⟨rfl,rfl⟩|⟨hk,hb'⟩
   ·exact absurd rfl hjk
   ·rcases new k b hb' hk with h1|h1
    ·rcases hq:a.v.ownBlock with _|q
     ·exact .inl rfl
     ·exact .inr (by rw[h1];simp)
    ·exact .inr fun e=>h1 e.symm
  ·rcases key k b hbb with⟨rfl,rfl⟩|⟨hk,hb'⟩
   ·exact new j a ha' hj
   ·exact h.apart j k a b ha' hb' hjk
 ·rcases key j x hx with⟨rfl,rfl⟩|⟨hj,hx'⟩
  ·rcases hb with hb|hb|⟨k,hk,hs⟩
   ·rw[hb];exact h.off _ r hr
   ·rw[hb];simp
   ·rw[hk];intro e;obtain rfl:=iV e;have:=h.lt;omega
  ·exact h.off j x hx'
theorem xQ.push {N:Nat} {w W:World} {wb:Nat} {R:List Row} (h:xQ N w wb R) (r':Row) {Ms:List Nat} (hE:Ext Ms w W) (hM: ∀m∈Ms,m=wb∨m<N)
 (ho:W.ownsRow N r'.t r'.size r'.v r'.n r'.xs) (hb:r'.v.ownBlock=none∨ ∃k,r'.v.ownBlock=some k/\w.heap.size<=k):xQ N W wb (R++[r']):=by
 have hk:=h.keep hE hM
 have key: ∀(j:Nat) (x:Row),(R++[r'])[j]? =some x->(R[j]? =some x)∨(j=R.length/\x=r'):=by
  intro j x hx
  by_cases hj:j<R.length
  ·rw[vH hj] at hx;exact .inl hx
  ·rw[nK (by omega)] at hx
   have h0:=(ji.1 hx).1
   simp only[List.length_cons,List.length_nil] at h0
   have:j-R.length=0:=by omega
   rw[this] at hx
   simp only[List.getElem?_cons_zero,Option.some.injEq] at hx
   exact .inr ⟨by omega,hx.symm⟩
 have new: ∀(j:Nat) (x:Row),R[j]? =some x->(x.v.ownBlock=none∨x.v.ownBlock≠r'.v.ownBlock)/\(r'.v.ownBlock=none∨r'.v.ownBlock≠x.v.ownBlock):=by
  intro j x hx
  rcases hb with hb|⟨k,hk,hs⟩
  ·rw[hb]
   refine⟨?_,.inl rfl⟩
   cases x.v.ownBlock with
   |none=>exact .inl rfl
   |some b=>exact .inr (by simp)
  ·have:x.v.ownBlock≠some k:=fun e=>by have:=((h.own j x hx).lt k e).2;omega
   rw[hk]
   exact⟨.inr this,.inr fun e=>this e.symm⟩
 refine⟨fun j x hx=>?_,fun j k a b ha hbb hjk=>?_,fun j x hx=>?_,hk.lt,h.base⟩
 ·rcases key j x hx with h1|⟨_,rfl⟩
  ·exact hk.own j x h1
  ·exact ho
 ·rcases key j a ha with h1|⟨h1,rfl⟩ <;>rcases key k b hbb with h2|⟨h2,rfl⟩
  ·exact h.apart j k a b h1 h2 hjk
  ·exact(new j a h1).1
  ·exact(new k b h2).2
  ·omega
 ·rcases key j x hx with h1|⟨_,rfl⟩
  ·exact h.off j x h1
  ·rcases hb with hb|⟨k,hk,hs⟩
   ·rw[hb];simp
   ·rw[hk];intro e;obtain rfl:=iV e;have:=h.lt;omega
structure SV where
 vO:Value
 QL:Value
 bW:Value
 Fg:Value
 Eh:Value
 hps:Value
 cks:Value
 trs:Value
abbrev dw (s:jF) (V:SV):Array Value:=
 #[iv s.led.field.rows,iv s.led.field.aO,iv s.led.field.left.1,iv s.led.field.left.2,V.vO,iv s.led.rate,iv s.led.box.1,iv s.led.box.2,V.QL,
   iv s.heap.last,iv s.heap.size,iv s.heap.bg,iv s.heap.die,iv s.heap.uK,iv s.heap.start.1,iv s.heap.start.2,V.bW,V.Fg,V.Eh,V.hps,V.cks,V.trs]
def zJ (e:KE):Row:=⟨3,1,e.1,e.2.length,ah e.2⟩
def iR (s:jF) (V:SV) (es:List KE):List Row:=
 [⟨118,5,V.vO,s.led.field.ax.length,dS s.led.field.ax⟩,⟨120,3,V.QL,s.led.notes.length,aX s.led.notes⟩,
   ⟨34,2,V.bW,s.heap.bW.length,aH s.heap.bW⟩,⟨3,1,V.Fg,s.heap.turns.length,ah s.heap.turns⟩,⟨122,3,V.Eh,s.heap.readings.length,aX s.heap.readings⟩,
   ⟨112,2,V.hps,s.dn.heaps.length,aH s.dn.heaps⟩,⟨36,1,V.cks,es.length,fD es⟩,⟨124,4,V.trs,s.dn.aK.length,gV s.dn.aK⟩]++es.map zJ
structure jV (N:Nat) (w:World) (wb:Nat) (s:jF) (V:SV) (es:List KE):Prop where
 blk:w.heap[wb]? =some (.cells (dw s V) 212 (0,0))
 rows:xQ N w wb (iR s V es)
 es:es.map (·.2)=s.dn.aT
def rW (N:Nat) (w:World) (ns:Value) (l:List Int):Prop:= ∃b c,ns= .slice (some ⟨b,0,none⟩) l.length c/\b<N/\ ∀(j:Nat) (h:j<l.length),w.cell? ⟨b,j,none⟩=some (iv l[j])
def rC (N:Nat) (wb:Nat) (x:Int×jF) (w:World) (e:Ending) (w':World):Prop:=
 Below N w w'/\((x.1=0/\e= .returned (.tuple #[])/\ ∃V es,jV N w' wb x.2 V es)∨(x.1≠0/\e= .panicked (kG x.1)))
theorem eX {N:Nat} {w:World} {wb:Nat} {s:jF} {V:SV} {es:List KE} (h:jV N w wb s V es):N<=w.heap.size:=by have:=h.rows.lt;have:=h.rows.base;omega
theorem jV.below {N:Nat} {w W:World} {wb:Nat} {s:jF} {V:SV} {es:List KE} (h:jV N w wb s V es) (hb:Below w.heap.size w W):jV N W wb s V es:=
 ⟨(hb.block _ h.rows.lt).trans h.blk,h.rows.keep (Ms:=[]) (Ext.az hb) (by simp),h.es⟩
theorem jV.store {N:Nat} {w W:World} {wb:Nat} {s s':jF} {V:SV} {es:List KE} (h:jV N w wb s V es) (hE:Ext [wb] w W) (hb:W.heap[wb]? =some (.cells (dw s' V) 212 (0,0))) (hr:iR s' V es=iR s V es) (hc:s'.dn.aT=s.dn.aT):jV N W wb s' V es:=
 ⟨hb,by rw[hr];exact h.rows.keep hE (fun m hm=> .inl (by simpa using hm)),by rw[hc];exact h.es⟩
theorem gG {W:World} {b off:Nat} {v:Value}:Ext [b] W (W.setCell ⟨b,off,none⟩ v):=
 ⟨rfl,rfl,rfl,by simp[World.setCell],fun k _ hm=>heap_setCell_other W _ k v (by simpa using hm)⟩
theorem bZ (a b m:Int):(Lp a b m=false)= ¬(a<=b/\b<=m):=by
 unfold Lp
 by_cases h1:a<=b <;>by_cases h2:b<=m <;>simp[h1,h2]
theorem cu (a b m k:Int):(LP a b m k=false)= ¬(a<=b/\b<=m/\b<=a+k):=by
 unfold LP
 by_cases h1:a<=b <;>by_cases h2:b<=m <;>by_cases h3:b<=a+k <;>simp[h1,h2,h3]
def aft (c:Prop) (v:Value) (w:World) (e:Ending) (w':World):Prop:=Below w.heap.size w w'/\((c/\e= .returned v)∨(¬c/\e= .panicked (kG 2)))
theorem wK {N wb:Nat} {x:Int×jF} {w w':World} {c:Int} (h3:Below N w w') (hx:x.1=c) (hc:c≠0):rC N wb x w (.panicked (kG c)) w':=⟨h3,.inr ⟨by rw[hx];exact hc,by rw[hx]⟩⟩
theorem vV (a b:Int) (w:World):Calls Tryz.prog 253 #[iv a,iv b] w (aft (a<=b/\b<=2000) (rv (a,b)) w):=by
 go_enter Tryz.func253,Tryz.ntmps253
 go_wp2_with fail
 refine(Gj _ _ _ _).mono ?_
 rintro e w1 ⟨hb,⟨hc,rfl⟩|⟨hc,rfl⟩⟩
 ·simp only[Bool.or_eq_false_iff,decide_eq_false_iff_not] at hc
  have HB:=ae hb
  obtain⟨c0,f0,l0⟩:=af ((hb.block w.heap.size (by simp)).trans (ay _ _))
  have HC:=ae hc
  have c00:=c0 0
  have c01:=c0 1
  simp at c00 c01
  have d0:(w1.setCell ⟨w.heap.size,0,none⟩ (iv a)).cell? ⟨w.heap.size,0,none⟩=some (iv a):=World.cell?_setCell_same _ _ _ c00
  have d1:((w1.setCell ⟨w.heap.size,0,none⟩ (iv a)).setCell ⟨w.heap.size,1,none⟩ (iv b)).cell? ⟨w.heap.size,1,none⟩=some (iv b):=World.cell?_setCell_same _ _ _ ((World.cell?_setCell_other _ _ _ _ (by simp)).trans c01)
  clear hb hc c0
  go_wp2_with fail
  (try simp only[Exit.inBlock,Exit.then])
  refine bodyPost_ret (v:=rv (a,b)) (by simp[results,Tryz.results253,go_sem,d0,d1]) rfl ?_
  exact⟨((aY (aj (aG _ _) _) HB.o).setCell (ak _) _).setCell (ak _) _,.inl ⟨by have:=HC.o;omega,rfl⟩⟩
 ·simp only[Bool.or_eq_true,eY] at hc
  exact⟨rfl,aY (aj (aG _ _) _) hb,.inr ⟨by omega,rfl⟩⟩
theorem uU (a b:Int) (wb:Nat) (s:jF) (V:SV) (w:World) (hblk:w.heap[wb]? =some (.cells (dw s V) 212 (0,0))):Calls Tryz.prog 250 #[.pointer (some ⟨wb,0,none⟩),iv a,iv b] w (aft (a<=b/\b<=s.led.field.rows) (rv (a,b)) w):=by
 obtain⟨k0,g0,j0⟩:=af hblk
 clear hblk
 go_enter Tryz.func250,Tryz.ntmps250
 go_wp2_with fail
 refine(Gj _ _ _ _).mono ?_
 rintro e w1 ⟨hb,⟨hc,rfl⟩|⟨hc,rfl⟩⟩
 ·simp only[Bool.or_eq_false_iff,decide_eq_false_iff_not] at hc
  have HB:=ae hb
  obtain⟨c0,f0,l0⟩:=af ((hb.block w.heap.size (by simp)).trans (ay _ _))
  have HC:=ae hc
  have c00:=c0 0
  have c01:=c0 1
  simp at c00 c01
  have d0:(w1.setCell ⟨w.heap.size,0,none⟩ (iv a)).cell? ⟨w.heap.size,0,none⟩=some (iv a):=World.cell?_setCell_same _ _ _ c00
  have d1:((w1.setCell ⟨w.heap.size,0,none⟩ (iv a)).setCell ⟨w.heap.size,1,none⟩ (iv b)).cell? ⟨w.heap.size,1,none⟩=some (iv b):=World.cell?_setCell_same _ _ _ ((World.cell?_setCell_other _ _ _ _ (by simp)).trans c01)
  clear hb hc c0 k0 g0 j0
  go_wp2_with fail
  (try simp only[Exit.inBlock,Exit.then])
  refine bodyPost_ret (v:=rv (a,b)) (by simp[results,Tryz.results250,go_sem,d0,d1]) rfl ?_
  exact⟨((aY (aj (aG _ _) _) HB.o).setCell (ak _) _).setCell (ak _) _,.inl ⟨by have:=HC.o;omega,rfl⟩⟩
 ·simp only[Bool.or_eq_true,eY] at hc
  exact⟨rfl,aY (aj (aG _ _) _) hb,.inr ⟨by omega,rfl⟩⟩
theorem wJ (a b k:Int) (w:World) (hx:0<=a/\a<=100000/\0<=k/\k<=100000):Calls Tryz.prog 260 #[iv a,iv b,iv k] w (aft (a<=b/\b<=100/\b<=a+k) (rv (a,b)) w):=by
 go_enter Tryz.func260,Tryz.ntmps260
 go_wp2_with fail
 refine(Ai _ _ _ _ _ hx).mono ?_
 rintro e w1 ⟨hb,⟨hc,rfl⟩|⟨hc,rfl⟩⟩
 ·simp only[Bool.or_eq_false_iff,decide_eq_false_iff_not] at hc
  have HB:=ae hb
  obtain⟨c0,f0,l0⟩:=af ((hb.block w.heap.size (by simp)).trans (ay _ _))
  have HC:=ae hc
  have c00:=c0 0
  have c01:=c0 1
  simp at c00 c01
  have d0:(w1.setCell ⟨w.heap.size,0,none⟩ (iv a)).cell? ⟨w.heap.size,0,none⟩=some (iv a):=World.cell?_setCell_same _ _ _ c00
  have d1:((w1.setCell ⟨w.heap.size,0,none⟩ (iv a)).setCell ⟨w.heap.size,1,none⟩ (iv b)).cell? ⟨w.heap.size,1,none⟩=some (iv b):=World.cell?_setCell_same _ _ _ ((World.cell?_setCell_other _ _ _ _ (by simp)).trans c01)
  clear hb hc c0
  go_wp2_with fail
  (try simp only[Exit.inBlock,Exit.then])
  refine bodyPost_ret (v:=rv (a,b)) (by simp[results,Tryz.results260,go_sem,d0,d1]) rfl ?_
  exact⟨((aY (aj (aG _ _) _) HB.o).setCell (ak _) _).setCell (ak _) _,.inl ⟨by have:=HC.o;omega,rfl⟩⟩
 ·simp only[Bool.or_eq_true,eY] at hc
  exact⟨rfl,aY (aj (aG _ _) _) hb,.inr ⟨by omega,rfl⟩⟩
theorem yF (a:Int) (wb:Nat) (s:jF) (V:SV) (w:World) (hblk:w.heap[wb]? =some (.cells (dw s V) 212 (0,0))) (hl:s.heap.last=4):Calls Tryz.prog 256 #[.pointer (some ⟨wb,0,none⟩),iv a] w (Ut 7 (decide (4<a)) w):=by
 obtain⟨k0,g0,j0⟩:=af hblk
 clear hblk
 go_enter Tryz.func256,Tryz.ntmps256
 go_wp2_with fail
 refine(jk _ _ _).mono ?_
 rintro e w1 ⟨hb,⟨hc,rfl⟩|⟨hc,rfl⟩⟩
 ·(try go_wp2_with fail)
  go_end0
  exact⟨hb,.inl ⟨by simp at hc⊢;omega,rfl⟩⟩
 ·exact⟨rfl,hb,.inr ⟨by simp at hc⊢;omega,rfl⟩⟩
theorem abZ (N:Nat) (w:World) (wb:Nat) (s:jF) (V:SV) (es:List KE) (ns:Value) (hO:jV N w wb s V es) (hG:gu s):Calls Tryz.prog 176 #[.pointer (some ⟨wb,0,none⟩),ns] w (rC N wb (iL s .row []) w):=by
 have HO:=ae hO
 have hr:=hG.rows
 obtain⟨c0,f0,l0⟩:=af hO.blk
 clear hO hG
 go_enter Tryz.func176,Tryz.ntmps176
 go_wp2_with fail
 refine(qM _ _ _).mono ?_
 rintro e w1 ⟨hb,⟨hc,rfl⟩|⟨hc,rfl⟩⟩
 ·obtain⟨c1,f1,l1⟩:=af ((hb.block _ l0).trans HO.o.blk)
  have HB:=ae hb
  clear hb c0 f0
  have hlt: ¬5<=s.led.field.rows:=by simpa using hc
  have hlt':s.led.field.rows<5:=by omega
  clear hc
  go_wp2_with fail
  go_end0
  have AA:=HO.o.below HB.o
  simp only[iL]
  rw[ai (by omega)]
  refine⟨(HB.o.mono (eX HO.o)).setCell HO.o.rows.base _,.inl ⟨rfl,rfl,V,es,?_⟩⟩
  exact AA.store gG (aJ AA.blk _) rfl rfl
 ·have hge:5<=s.led.field.rows:=by simpa using hc
  simp only[iL]
  rw[aA hge]
  exact⟨rfl,hb.mono (eX HO.o),.inr ⟨by simp,rfl⟩⟩
theorem Zm (N:Nat) (w:World) (wb:Nat) (s:jF) (V:SV) (es:List KE) (ns:Value) (x:Int) (hO:jV N w wb s V es) (hn:rW N w ns [x]):Calls Tryz.prog 181 #[.pointer (some ⟨wb,0,none⟩),ns] w (rC N wb (iL s .rate [x]) w):=by
 obtain⟨vt,vn,vw,vu,vr,vh,vk,vs⟩:=V
 have HO:=ae hO
 have gK:=eX hO
 obtain⟨b,c,rfl,hbN,hcs⟩:=hn
 have lb:b<w.heap.size:=by omega
 have lw:=hO.rows.lt
 have wI:=hO.rows.base
 have HW:Hid (∀W,Below N w W->b<W.heap.size/\ ∀(j:Nat) (h:j<[x].length),W.cell? ⟨b,j,none⟩=some (iv [x][j])):=ae (fun W hB=>⟨by have:=hB.size;omega,fun j h=>(jh (hB.block b hbN)).trans (hcs j h)⟩)
 obtain⟨c0,f0,l0⟩:=af hO.blk
 have oZ:=hcs 0 (by simp)
 simp only[au] at oZ
 have HB0:Hid (Below w.heap.size w w):=ae (aG _ _)
 clear hO hcs
 go_enter Tryz.func181,Tryz.ntmps181
 go_wp2_with fail
 refine zg 8 [] none [] ?_
 simp only[zt]
 repeat ((first|refine zd ?_|refine zk ?_);simp only[zp])
 intro W1 hE hF
 have HB1:=ae (aY HB0.o hE.below)
 clear hE hF c0 f0 oZ
 obtain⟨c1,f1,l1⟩:=af ((HB1.o.block _ lw).trans HO.o.blk)
 obtain⟨wU,hcs1⟩:=HW.o W1 (HB1.o.mono gK)
 have n10:=hcs1 0 (by simp)
 simp only[au] at n10
 clear hcs1
 go_wp2_with fail
 refine(dZ 2 [x==0,decide (50<x)] W1 (by simp) _ (by simp[dL]) _ _ rfl).mono ?_
 rintro e W2 ⟨hb,⟨hc,rfl⟩|⟨hc,rfl⟩⟩
 rotate_left
 ·simp at hc
  simp only[iL,bZ,cu,dD]
  (repeat (first|rw[aA (by omega)]|rw[ai (by omega)]))
  exact⟨rfl,(aY HB1.o hb).mono gK,.inr ⟨by simp,rfl⟩⟩
 simp at hc
 have HB2:=ae (aY HB1.o hb)
 have jS:=ae hc
 clear hb hc c1 f1 wU n10
 obtain⟨c2,f2,l2⟩:=af ((HB2.o.block _ lw).trans HO.o.blk)
 obtain⟨xR,hcs2⟩:=HW.o W2 (HB2.o.mono gK)
 have n20:=hcs2 0 (by simp)
 simp only[au] at n20
 clear hcs2
 go_wp2_with fail
 go_end0
 have q0:=jS.o
 simp only[iL,bZ,cu,dD]
 (repeat (first|rw[aA (by omega)]|rw[ai (by omega)]))
 have AA:=HO.o.below HB2.o
 exact⟨((HB2.o.mono gK).setCell wI _),.inl ⟨rfl,rfl,_,es,AA.store (gG) (aJ (AA.blk) _) rfl rfl⟩⟩
theorem acW (N:Nat) (w:World) (wb:Nat) (s:jF) (V:SV) (es:List KE) (ns:Value) (x y:Int) (hO:jV N w wb s V es) (hn:rW N w ns [x,y]):Calls Tryz.prog 182 #[.pointer (some ⟨wb,0,none⟩),ns] w (rC N wb (iL s .box [x,y]) w):=by
 obtain⟨vt,vn,vw,vu,vr,vh,vk,vs⟩:=V
 have HO:=ae hO
 have gK:=eX hO
 obtain⟨b,c,rfl,hbN,hcs⟩:=hn
 have lb:b<w.heap.size:=by omega
 have lw:=hO.rows.lt
 have wI:=hO.rows.base
 have HW:Hid (∀W,Below N w W->b<W.heap.size/\ ∀(j:Nat) (h:j<[x,y].length),W.cell? ⟨b,j,none⟩=some (iv [x,y][j])):=ae (fun W hB=>⟨by have:=hB.size;omega,fun j h=>(jh (hB.block b hbN)).trans (hcs j h)⟩)
 obtain⟨c0,f0,l0⟩:=af hO.blk
 have oZ:=hcs 0 (by simp)
 simp only[au] at oZ
 have n01:=hcs 1 (by simp)
 simp only[au] at n01
 have HB0:Hid (Below w.heap.size w w):=ae (aG _ _)
 clear hO hcs
 go_enter Tryz.func182,Tryz.ntmps182
 go_wp2_with fail
 refine RX.gB (fun ps W'=> ¬(x<=y/\y<=2000)/\ps=kG 2/\Below N w W') 8 [] none [(7,⟨fun _ v=>v=rv (x,y),fun _ _ _=>(x<=y/\y<=2000)⟩)] (by rintro ps a1 Wx hdf ⟨h1,rfl,h3⟩;refine⟨hdf,wK (c:=2) h3 ?_ (by decide)⟩;simp only[iL,bZ,cu,dD];(repeat (first|rw[aA (by omega)]|rw[ai (by omega)]))) (by as_aux_lemma=>kernel_rfl) (by as_aux_lemma=>kernel_rfl) ?_
 simp only[zt]
 repeat (refine RX.zd ?_;simp only[zp])
 refine RX.bM _ (by rfl) (by rfl) ⟨_,rfl⟩ (fun Wq hE2 hF2=>?_) (fun v Wa Wb ho hE=>ho) (fun v hv=>?_)
 ·have hE':Ext [] w Wq:=hE2
  refine RX.dB 253 #[iv x,iv y] (by go_simp;try rfl) ?_
  refine(vV x y Wq).mono ?_
  rintro e w' ⟨hb,⟨hc,rfl⟩|⟨hc,rfl⟩⟩
  ·exact .inl ⟨_,rfl,rfl,hc,Ext.az hb⟩
  ·exact .inr ⟨_,rfl,hc,rfl,(aY HB0.o (aY hE'.below hb)).mono gK⟩
 obtain rfl:v=rv (x,y):=hv
 simp only[zp]
 intro W1 hE hF
 have hc:x<=y/\y<=2000:=hF _ (bK _)
 have HB1:=ae (aY HB0.o (show Ext [] w W1 from hE).below)
 have jS:=ae hc
 clear hE hF hc c0 f0 oZ n01
 obtain⟨c1,f1,l1⟩:=af ((HB1.o.block _ lw).trans HO.o.blk)
 obtain⟨wU,hcs1⟩:=HW.o W1 (HB1.o.mono gK)
 have n10:=hcs1 0 (by simp)
 simp only[au] at n10
 have n11:=hcs1 1 (by simp)
 simp only[au] at n11
 clear hcs1
 go_wp2_with fail
 go_end0
 have q0:=jS.o
 simp only[iL,bZ,cu,dD]
 (repeat (first|rw[aA (by omega)]|rw[ai (by omega)]))
 have AA:=HO.o.below HB1.o
 exact⟨(((HB1.o.mono gK).setCell wI _).setCell wI _),.inl ⟨rfl,rfl,_,es,AA.store ((gG).trans gG) (aJ (aJ (AA.blk) _) _) rfl rfl⟩⟩
theorem ZR (N:Nat) (w:World) (wb:Nat) (s:jF) (V:SV) (es:List KE) (ns:Value) (x y:Int) (hO:jV N w wb s V es) (hn:rW N w ns [x,y]):Calls Tryz.prog 177 #[.pointer (some ⟨wb,0,none⟩),ns] w (rC N wb (iL s .left [x,y]) w):=by
 obtain⟨vt,vn,vw,vu,vr,vh,vk,vs⟩:=V
 have HO:=ae hO
 have gK:=eX hO
 obtain⟨b,c,rfl,hbN,hcs⟩:=hn
 have lb:b<w.heap.size:=by omega
 have lw:=hO.rows.lt
 have wI:=hO.rows.base
 have HW:Hid (∀W,Below N w W->b<W.heap.size/\ ∀(j:Nat) (h:j<[x,y].length),W.cell? ⟨b,j,none⟩=some (iv [x,y][j])):=ae (fun W hB=>⟨by have:=hB.size;omega,fun j h=>(jh (hB.block b hbN)).trans (hcs j h)⟩)
 obtain⟨c0,f0,l0⟩:=af hO.blk
 have oZ:=hcs 0 (by simp)
 simp only[au] at oZ
 have n01:=hcs 1 (by simp)
 simp only[au] at n01
 have HB0:Hid (Below w.heap.size w w):=ae (aG _ _)
 clear hO hcs
 go_enter Tryz.func177,Tryz.ntmps177
 go_wp2_with fail
 refine RX.gB (fun ps W'=> ¬(x<=y/\y<=s.led.field.rows)/\ps=kG 2/\Below N w W') 9 [] none [(8,⟨fun _ v=>v=rv (x,y),fun _ _ _=>(x<=y/\y<=s.led.field.rows)⟩)] (by rintro ps a1 Wx hdf ⟨h1,rfl,h3⟩;refine⟨hdf,wK (c:=2) h3 ?_ (by decide)⟩;simp only[iL,bZ,cu,dD];(repeat (first|rw[aA (by omega)]|rw[ai (by omega)]))) (by as_aux_lemma=>kernel_rfl) (by as_aux_lemma=>kernel_rfl) ?_
 simp only[zt]
 repeat (refine RX.zd ?_;simp only[zp])
 refine RX.bM _ (by rfl) (by rfl) ⟨_,rfl⟩ (fun Wq hE2 hF2=>?_) (fun v Wa Wb ho hE=>ho) (fun v hv=>?_)
 ·have hE':Ext [] w Wq:=hE2
  refine RX.dB 250 #[.pointer (some ⟨wb,0,none⟩),iv x,iv y] (by go_simp;try rfl) ?_
  refine(uU x y wb s _ Wq ((hE'.block _ lw (by simp)).trans HO.o.blk)).mono ?_
  rintro e w' ⟨hb,⟨hc,rfl⟩|⟨hc,rfl⟩⟩
  ·exact .inl ⟨_,rfl,rfl,hc,Ext.az hb⟩
  ·exact .inr ⟨_,rfl,hc,rfl,(aY HB0.o (aY hE'.below hb)).mono gK⟩
 obtain rfl:v=rv (x,y):=hv
 simp only[zp]
 intro W1 hE hF
 have hc:x<=y/\y<=s.led.field.rows:=hF _ (bK _)
 have HB1:=ae (aY HB0.o (show Ext [] w W1 from hE).below)
 have jS:=ae hc
 clear hE hF hc c0 f0 oZ n01
 obtain⟨c1,f1,l1⟩:=af ((HB1.o.block _ lw).trans HO.o.blk)
 obtain⟨wU,hcs1⟩:=HW.o W1 (HB1.o.mono gK)
 have n10:=hcs1 0 (by simp)
 simp only[au] at n10
 have n11:=hcs1 1 (by simp)
 simp only[au] at n11
 clear hcs1
 go_wp2_with fail
 go_end0
 have q0:=jS.o
 simp only[iL,bZ,cu,dD]
 (repeat (first|rw[aA (by omega)]|rw[ai (by omega)]))
 have AA:=HO.o.below HB1.o
 exact⟨(((HB1.o.mono gK).setCell wI _).setCell wI _),.inl ⟨rfl,rfl,_,es,AA.store ((gG).trans gG) (aJ (aJ (AA.blk) _) _) rfl rfl⟩⟩
theorem VW (N:Nat) (w:World) (wb:Nat) (s:jF) (V:SV) (es:List KE) (ns:Value) (x y:Int) (hO:jV N w wb s V es) (hn:rW N w ns [x,y]) (hx:0<=x/\x<=9999):Calls Tryz.prog 185 #[.pointer (some ⟨wb,0,none⟩),ns] w (rC N wb (iL s .start [x,y]) w):=by
 obtain⟨vt,vn,vw,vu,vr,vh,vk,vs⟩:=V
 have HO:=ae hO
 have gK:=eX hO
 obtain⟨b,c,rfl,hbN,hcs⟩:=hn
 have lb:b<w.heap.size:=by omega
 have lw:=hO.rows.lt
 have wI:=hO.rows.base
 have HW:Hid (∀W,Below N w W->b<W.heap.size/\ ∀(j:Nat) (h:j<[x,y].length),W.cell? ⟨b,j,none⟩=some (iv [x,y][j])):=ae (fun W hB=>⟨by have:=hB.size;omega,fun j h=>(jh (hB.block b hbN)).trans (hcs j h)⟩)
 obtain⟨c0,f0,l0⟩:=af hO.blk
 have oZ:=hcs 0 (by simp)
 simp only[au] at oZ
 have n01:=hcs 1 (by simp)
 simp only[au] at n01
 have HB0:Hid (Below w.heap.size w w):=ae (aG _ _)
 clear hO hcs
 go_enter Tryz.func185,Tryz.ntmps185
 go_wp2_with fail
 refine zg 6 [] none [] ?_
 simp only[zt]
 repeat ((first|refine zd ?_|refine zk ?_);simp only[zp])
 intro W1 hE hF
 have HB1:=ae (aY HB0.o hE.below)
 clear hE hF c0 f0 oZ n01
 obtain⟨c1,f1,l1⟩:=af ((HB1.o.block _ lw).trans HO.o.blk)
 obtain⟨wU,hcs1⟩:=HW.o W1 (HB1.o.mono gK)
 have n10:=hcs1 0 (by simp)
 simp only[au] at n10
 have n11:=hcs1 1 (by simp)
 simp only[au] at n11
 clear hcs1
 go_wp2_with fail
 refine(Ai _ _ _ _ _ (by omega)).mono ?_
 rintro e W2 ⟨hb,⟨hc,rfl⟩|⟨hc,rfl⟩⟩
 rotate_left
 ·simp at hc
  simp only[iL,bZ,cu,dD]
  (repeat (first|rw[aA (by omega)]|rw[ai (by omega)]))
  exact⟨rfl,(aY HB1.o hb).mono gK,.inr ⟨by simp,rfl⟩⟩
 simp at hc
 have HB2:=ae (aY HB1.o hb)
 have jS:=ae hc
 clear hb hc c1 f1 wU n10 n11
 obtain⟨c2,f2,l2⟩:=af ((HB2.o.block _ lw).trans HO.o.blk)
 obtain⟨xR,hcs2⟩:=HW.o W2 (HB2.o.mono gK)
 have n20:=hcs2 0 (by simp)
 simp only[au] at n20
 have n21:=hcs2 1 (by simp)
 simp only[au] at n21
 clear hcs2
 go_wp2_with fail
 refine zg 8 [] none [] ?_
 simp only[zt]
 repeat ((first|refine zd ?_|refine zk ?_);simp only[zp])
 intro W3 hE hF
 have HB3:=ae (aY HB2.o hE.below)
 clear hE hF c2 f2 xR n20 n21
 obtain⟨c3,f3,l3⟩:=af ((HB3.o.block _ lw).trans HO.o.blk)
 obtain⟨GX,hcs3⟩:=HW.o W3 (HB3.o.mono gK)
 have n30:=hcs3 0 (by simp)
 simp only[au] at n30
 have n31:=hcs3 1 (by simp)
 simp only[au] at n31
 clear hcs3
 go_wp2_with fail
 go_end0
 have q0:=jS.o
 simp only[iL,bZ,cu,dD]
 (repeat (first|rw[aA (by omega)]|rw[ai (by omega)]))
 have AA:=HO.o.below HB3.o
 exact⟨(((HB3.o.mono gK).setCell wI _).setCell wI _),.inl ⟨rfl,rfl,_,es,AA.store ((gG).trans gG) (aJ (aJ (AA.blk) _) _) rfl rfl⟩⟩
theorem jV.put {N:Nat} {w W:World} {wb:Nat} {s s':jF} {V V':SV} {es es':List KE} (h:jV N w wb s V es) {i:Nat} {r:Row} (hr:(iR s V es)[i]? =some r) (r':Row) {Ms:List Nat} (hE:Ext Ms w W) (hM: ∀m∈Ms,r.v.ownBlock=some m)
 (ho:W.ownsRow N r'.t r'.size r'.v r'.n r'.xs) (hb:r'.v.ownBlock=r.v.ownBlock∨ ∃k,r'.v.ownBlock=some k/\w.heap.size<=k) {off:Nat} {u:Value} (hblk:(W.setCell ⟨wb,off,none⟩ u).heap[wb]? =some (.cells (dw s' V') 212 (0,0)))
 (hrows:iR s' V' es'=(iR s V es).set i r') (hes:es'.map (·.2)=s'.dn.aT):jV N (W.setCell ⟨wb,off,none⟩ u) wb s' V' es':=by
 refine⟨hblk,?_,hes⟩
 rw[hrows]
 have h1:=h.rows.put hr r' hE (fun m hm=> .inr (.inr (hM m hm))) ho (hb.imp id .inr)
 exact h1.keep gG (fun m hm=> .inl (by simpa using hm))
theorem aU {w:World} {base:Nat} {e:TypeId} {size:Nat} {v:Value} {n:Nat} {xs:List Value} (h:w.ownsRow base e size v n xs): ∃o c,v= .slice o n c:=by
 obtain⟨h1,⟨rfl,rfl⟩|⟨g,c,cs,rfl,h3⟩⟩:=h
 ·exact⟨none,0,rfl⟩
 ·exact⟨_,_,rfl⟩
theorem Gq (x y z:Int): ∀u∈[iv x,iv y,iv z],u.oneCell'=true:=by simp[Value.oneCell']
theorem Oo (x y z p q:Int): ∀u∈[iv x,iv y,iv z,iv p,iv q],u.oneCell'=true:=by simp[Value.oneCell']
theorem ab4 (x y z:Int): ∀u∈[Value.bool true,iv x,iv y,iv z],u.oneCell'=true:=by simp[Value.oneCell']
theorem Zz (x y:Int): ∀u∈[iv x,iv y],u.oneCell'=true:=by simp[Value.oneCell']
theorem one_one (x:Int): ∀u∈[iv x],u.oneCell'=true:=by simp[Value.oneCell']
theorem Y9:iW Tryz.prog 27 118 (.agg #[iv 0,iv 0,iv 0,iv 0,iv 0]) 5 40:=⟨Tryz.underlying27,by kernel_rfl,rfl,by omega⟩
theorem abU:iW Tryz.prog 31 120 (.agg #[iv 0,iv 0,iv 0]) 3 24:=⟨Tryz.underlying31,by kernel_rfl,rfl,by omega⟩
theorem agq:iW Tryz.prog 40 112 (rv (0,0)) 2 16:=⟨Tryz.underlying40,by kernel_rfl,rfl,by omega⟩
theorem ags:iW Tryz.prog 41 36 (.slice none 0 0) 1 24:=⟨Tryz.underlying41,by kernel_rfl,rfl,by omega⟩
theorem abS:iW Tryz.prog 42 124 (.agg #[.bool false,iv 0,iv 0,iv 0]) 4 32:=⟨Tryz.underlying42,by kernel_rfl,rfl,by omega⟩
theorem abT:iW Tryz.prog 37 122 (.agg #[iv 0,iv 0,iv 0]) 3 24:=⟨Tryz.underlying37,by kernel_rfl,rfl,by omega⟩
theorem ZX (N:Nat) (w:World) (wb:Nat) (s:jF) (V:SV) (es:List KE) (ns:Value) (x y z:Int) (hO:jV N w wb s V es) (hn:rW N w ns [x,y,z]) (hG:gu s):Calls Tryz.prog 189 #[.pointer (some ⟨wb,0,none⟩),ns] w (rC N wb (iL s .xN [x,y,z]) w):=by
 obtain⟨vt,vn,vw,vu,vr,vh,vk,vs⟩:=V
 obtain⟨o,cc,rfl⟩: ∃o c,vr= .slice o s.heap.readings.length c:=aU (n:=s.heap.readings.length) (hO.rows.own 4 _ rfl)
 have HO:=ae hO
 have gK:=eX hO
 obtain⟨b,c,rfl,hbN,hcs⟩:=hn
 have lb:b<w.heap.size:=by omega
 have lw:=hO.rows.lt
 have wI:=hO.rows.base
 have HW:Hid (∀W,Below N w W->b<W.heap.size/\ ∀(j:Nat) (h:j<[x,y,z].length),W.cell? ⟨b,j,none⟩=some (iv [x,y,z][j])):=ae (fun W hB=>⟨by have:=hB.size;omega,fun j h=>(jh (hB.block b hbN)).trans (hcs j h)⟩)
 obtain⟨c0,f0,l0⟩:=af hO.blk
 have oZ:=hcs 0 (by simp)
 simp only[au] at oZ
 have n01:=hcs 1 (by simp)
 simp only[au] at n01
 have n02:=hcs 2 (by simp)
 simp only[au] at n02
 have HB0:Hid (Below w.heap.size w w):=ae (aG _ _)
 have hl4:=hG.heap.1
 have L9:=hG.reads
 clear hO hcs hG
 go_enter Tryz.func189,Tryz.ntmps189
 go_wp2_with fail
 refine(yF x wb s _ w ((HB0.o.block _ lw).trans HO.o.blk) hl4).mono ?_
 rintro e W1 ⟨hb,⟨hc,rfl⟩|⟨hc,rfl⟩⟩
 rotate_left
 ·simp at hc
  simp only[iL,bZ,cu,dD]
  (repeat (first|rw[aA (by omega)]|rw[ai (by omega)]))
  exact⟨rfl,(aY HB0.o hb).mono gK,.inr ⟨by simp,rfl⟩⟩
 simp at hc
 have HB1:=ae (aY HB0.o hb)
 have jS:=ae hc
 clear hb hc c0 f0 oZ n01 n02
 obtain⟨c1,f1,l1⟩:=af ((HB1.o.block _ lw).trans HO.o.blk)
 obtain⟨wU,hcs1⟩:=HW.o W1 (HB1.o.mono gK)
 have n10:=hcs1 0 (by simp)
 simp only[au] at n10
 have n11:=hcs1 1 (by simp)
 simp only[au] at n11
 have n12:=hcs1 2 (by simp)
 simp only[au] at n12
 clear hcs1
 go_wp2_with fail
 refine zg 8 [] none [] ?_
 simp only[zt]
 repeat ((first|refine zd ?_|refine zk ?_);simp only[zp])
 intro W2 hE hF
 have HB2:=ae (aY HB1.o hE.below)
 clear hE hF c1 f1 wU n10 n11 n12
 obtain⟨c2,f2,l2⟩:=af ((HB2.o.block _ lw).trans HO.o.blk)
 obtain⟨xR,hcs2⟩:=HW.o W2 (HB2.o.mono gK)
 have n20:=hcs2 0 (by simp)
 simp only[au] at n20
 have n21:=hcs2 1 (by simp)
 simp only[au] at n21
 have n22:=hcs2 2 (by simp)
 simp only[au] at n22
 clear hcs2
 go_wp2_with fail
 refine(dZ 2 [decide (1000<y),decide (50<z)] W2 (by simp) _ (by simp[dL]) _ _ rfl).mono ?_
 rintro e W3 ⟨hb,⟨hc,rfl⟩|⟨hc,rfl⟩⟩
 rotate_left
 ·simp at hc
  have q0:=jS.o
  simp only[iL,bZ,cu,dD]
  (repeat (first|rw[aA (by omega)]|rw[ai (by omega)]))
  exact⟨rfl,(aY HB2.o hb).mono gK,.inr ⟨by simp,rfl⟩⟩
 simp at hc
 have HB3:=ae (aY HB2.o hb)
 have rD:=ae hc
 clear hb hc c2 f2 xR n20 n21 n22
 obtain⟨c3,f3,l3⟩:=af ((HB3.o.block _ lw).trans HO.o.blk)
 obtain⟨GX,hcs3⟩:=HW.o W3 (HB3.o.mono gK)
 have n30:=hcs3 0 (by simp)
 simp only[au] at n30
 have n31:=hcs3 1 (by simp)
 simp only[au] at n31
 have n32:=hcs3 2 (by simp)
 simp only[au] at n32
 clear hcs3
 go_wp2_with fail
 refine(qM _ _ _).mono ?_
 rintro e W4 ⟨hb,⟨hc,rfl⟩|⟨hc,rfl⟩⟩
 rotate_left
 ·simp at hc
  have q0:=jS.o
  have q1:=rD.o
  simp only[iL,bZ,cu,dD]
  (repeat (first|rw[aA (by omega)]|rw[ai (by omega)]))
  exact⟨rfl,(aY HB3.o hb).mono gK,.inr ⟨by simp,rfl⟩⟩
 simp at hc
 have HB4:=ae (aY HB3.o hb)
 have xI:=ae hc
 clear hb hc c3 f3 GX n30 n31 n32
 obtain⟨c4,f4,l4⟩:=af ((HB4.o.block _ lw).trans HO.o.blk)
 obtain⟨Np,kC⟩:=HW.o W4 (HB4.o.mono gK)
 have n40:=kC 0 (by simp)
 simp only[au] at n40
 have n41:=kC 1 (by simp)
 simp only[au] at n41
 have n42:=kC 2 (by simp)
 simp only[au] at n42
 clear kC
 go_wp2_with fail
 obtain⟨Ms,hMs⟩: ∃Ms,Ms=(Value.slice o s.heap.readings.length cc).ownBlock.toList:=⟨_,rfl⟩
 have hO4:=HO.o.below HB4.o
 have hm1:wb∉Ms:=fun h=>hO4.rows.off 4 _ rfl (by rw[hMs] at h;exact dJ.1 h)
 have hm2:b∉Ms:=fun h=>by have:=((hO4.rows.own 4 _ rfl).lt b (by rw[hMs] at h;exact dJ.1 h)).1;omega
 have xG: ∀m∈Ms,m<W4.heap.size:=fun m h=>((hO4.rows.own 4 _ rfl).lt m (by rw[hMs] at h;exact dJ.1 h)).2
 have HM:=ae hMs
 have jA:=ae hO4
 clear hMs hO4
 refine zg 19 Ms (some 18) [(17,Spec.slice W4.heap.size #[iv x,iv y,iv z] 122 1),(18,⟨fun _ v=> ∃o2 c2,v= .slice o2 (s.heap.readings.length+1) c2,fun _ v Wx=>Wx.ownsRow N 122 3 v (s.heap.readings.length+1) (aX s.heap.readings++[iv x,iv y,iv z])/\(v.ownBlock=(Value.slice o s.heap.readings.length cc).ownBlock∨ ∃q,v.ownBlock=some q/\W4.heap.size<=q)⟩)] ?_
 simp only[zt]
 repeat ((first|refine zd ?_|refine zk ?_);simp only[zp])
 refine eF W4.heap.size _ _ 1 (by rfl) (ak _) (by rfl) xG (by simp) (fun W hW=>by go_simp;try rfl) (fun b6=>?_)
 simp only[zp]
 repeat ((first|refine zd ?_|refine zk ?_);simp only[zp])
 refine bM _ (by rfl) (by rfl) (by exact⟨.slice none (s.heap.readings.length+1) 0,none,0,rfl⟩) (fun W6 hE hF=>?_) (fun v Wa Wb ho hE=>?_) (fun v hv=>?_)
 ·have hE':Ext [] W4 W6:=hE
  obtain⟨b',hb',hge,hcc⟩:=hF _ (bK _) (by kernel_rfl)
  cases hb'
  have hown6:W6.ownsRow N 122 3 (.slice o s.heap.readings.length cc) s.heap.readings.length (aX s.heap.readings):=aB (Ms:=[]) (jA.o.rows.own 4 _ rfl) hE' (by simp)
  have hsrc:aN 3 W6 (.slice (some ⟨b6,0,none⟩) 1 1) 1 ([iv x,iv y,iv z]):=aN.dm 3 1 hcc rfl (by decide)
  refine Does.mono (dU abT (by rfl) (by rfl) hown6 (by rfl) hsrc (Gq x y z) (by omega) (by omega) (by have:=hE'.size;have:=HB4.o.size;omega)) ?_
  rintro v' W7 ⟨ho,hgr,hcase⟩
  refine⟨aU ho,⟨ho,?_⟩,⟨hgr.os,hgr.tape,hgr.output,hgr.size,fun b hb hn=>hgr.block b hb (fun e=>hn (by rw[HM.o];exact dJ.2 e.symm))⟩⟩
  rcases hcase with h1|h1
  ·exact .inl h1
  ·exact .inr ⟨_,h1,hE'.size⟩
 ·exact⟨aB (Ms:=[]) ho.1 hE (by simp),ho.2⟩
 obtain⟨o7,c7,rfl⟩:=hv
 simp only[zp]
 intro W5 hE hF
 obtain⟨qG,Au⟩:=hF _ (bK _)
 have ik:Ext Ms W4 W5:=hE
 have hbl:=(ik.block wb jA.o.rows.lt hm1).trans jA.o.blk
 obtain⟨c5,f5,l5⟩:=af hbl
 have jc:=ae (ag ik (ag qG (ag Au hbl)))
 have EU:Below N w W5:=(HB4.o.mono gK).trans ⟨ik.os,ik.tape,ik.output,ik.size,fun k hk=>ik.block k (by have:=HB4.o.size;omega) (fun h=>by have:=((jA.o.rows.own 4 _ rfl).lt k (by rw[HM.o] at h;exact dJ.1 h)).1;omega)⟩
 have qc:=ae EU
 clear hE hF ik qG Au hbl EU hm1 hm2 xG c4 f4 Np n40 n41 n42
 go_wp2_with fail
 go_end0
 have q0:=jS.o
 have q1:=rD.o
 have q2:=xI.o
 simp only[iL,bZ,cu,dD]
 (repeat (first|rw[aA (by omega)]|rw[ai (by omega)]))
 refine⟨qc.o.setCell wI _,.inl ⟨rfl,rfl,⟨vt,vn,vw,vu,.slice o7 (s.heap.readings.length+1) c7,vh,vk,vs⟩,es,jA.o.put (i:=4) rfl ⟨122,3,.slice o7 (s.heap.readings.length+1) c7,s.heap.readings.length+1,aX s.heap.readings++[iv x,iv y,iv z]⟩ jc.o.1 (fun m hm=>by rw[HM.o] at hm;exact dJ.1 hm) jc.o.2.1 jc.o.2.2.1 (aJ jc.o.2.2.2 _) (by simp[iR,gU,aX]) (jA.o.es)⟩⟩
theorem note_any (N:Nat) (w:World) (wb:Nat) (s:jF) (V:SV) (es:List KE) (ns:Value) (x y z:Int) (hO:jV N w wb s V es) (hn:rW N w ns [x,y,z]) (hG:gu s):Calls Tryz.prog 183 #[.pointer (some ⟨wb,0,none⟩),ns] w (rC N wb (iL s .note [x,y,z]) w):=by
 obtain⟨vt,vn,vw,vu,vr,vh,vk,vs⟩:=V
 obtain⟨o,cc,rfl⟩: ∃o c,vn= .slice o s.led.notes.length c:=aU (n:=s.led.notes.length) (hO.rows.own 1 _ rfl)
 have HO:=ae hO
 have gK:=eX hO
 obtain⟨b,c,rfl,hbN,hcs⟩:=hn
 have lb:b<w.heap.size:=by omega
 have lw:=hO.rows.lt
 have wI:=hO.rows.base
 have HW:Hid (∀W,Below N w W->b<W.heap.size/\ ∀(j:Nat) (h:j<[x,y,z].length),W.cell? ⟨b,j,none⟩=some (iv [x,y,z][j])):=ae (fun W hB=>⟨by have:=hB.size;omega,fun j h=>(jh (hB.block b hbN)).trans (hcs j h)⟩)
 obtain⟨c0,f0,l0⟩:=af hO.blk
 have oZ:=hcs 0 (by simp)
 simp only[au] at oZ
 have n01:=hcs 1 (by simp)
 simp only[au] at n01
 have n02:=hcs 2 (by simp)
 simp only[au] at n02
 have HB0:Hid (Below w.heap.size w w):=ae (aG _ _)
 have L9:=hG.notes
 have hwe:=hG.aO
 clear hO hcs hG
 go_enter Tryz.func183,Tryz.ntmps183
 go_wp2_with fail
 refine zg 10 [] none [] ?_
 simp only[zt]
 repeat ((first|refine zd ?_|refine zk ?_);simp only[zp])
 intro W1 hE hF
 have HB1:=ae (aY HB0.o hE.below)
 clear hE hF c0 f0 oZ n01 n02
 obtain⟨c1,f1,l1⟩:=af ((HB1.o.block _ lw).trans HO.o.blk)
 obtain⟨wU,hcs1⟩:=HW.o W1 (HB1.o.mono gK)
 have n10:=hcs1 0 (by simp)
 simp only[au] at n10
 have n11:=hcs1 1 (by simp)
 simp only[au] at n11
 have n12:=hcs1 2 (by simp)
 simp only[au] at n12
 clear hcs1
 go_wp2_with fail
 refine(jk _ _ _).mono ?_
 rintro e W2 ⟨hb,⟨hc,rfl⟩|⟨hc,rfl⟩⟩
 rotate_left
 ·simp at hc
  simp only[iL,bZ,cu,dD]
  (repeat (first|rw[aA (by omega)]|rw[ai (by omega)]))
  exact⟨rfl,(aY HB1.o hb).mono gK,.inr ⟨by simp,rfl⟩⟩
 simp at hc
 have HB2:=ae (aY HB1.o hb)
 have HS2:=ae hb
 have jS:=ae hc
 clear hb hc c1 f1 wU n10 n11 n12
 obtain⟨c2,f2,l2⟩:=af ((HB2.o.block _ lw).trans HO.o.blk)
 obtain⟨xR,hcs2⟩:=HW.o W2 (HB2.o.mono gK)
 have n20:=hcs2 0 (by simp)
 simp only[au] at n20
 have n21:=hcs2 1 (by simp)
 simp only[au] at n21
 have n22:=hcs2 2 (by simp)
 simp only[au] at n22
 clear hcs2
 go_wp2_with fail
 refine RX.gB (fun ps W'=> ¬(y<=z/\z<=2000)/\ps=kG 2/\Below N w W') 12 [] none [(9,⟨fun _ v=>v=rv (y,z),fun _ _ _=>(y<=z/\z<=2000)⟩),(11,Spec.block W2.heap.size #[iv 0,iv 0,iv 0] 120)] (by rintro ps a1 Wx hdf ⟨h1,rfl,h3⟩;refine⟨hdf,wK (c:=2) h3 ?_ (by decide)⟩;have q0:=jS.o;simp only[iL,bZ,cu,dD];(repeat (first|rw[aA (by omega)]|rw[ai (by omega)]))) (by as_aux_lemma=>kernel_rfl) (by as_aux_lemma=>kernel_rfl) ?_
 simp only[zt]
 repeat (refine RX.zd ?_;simp only[zp])
 refine RX.bM _ (by rfl) (by rfl) ⟨_,rfl⟩ (fun Wq hE2 hF2=>?_) (fun v Wa Wb ho hE=>ho) (fun v hv=>?_)
 ·have hE':Ext [] W2 Wq:=hE2
  refine RX.dB 253 #[iv y,iv z] (by go_simp;try rfl) ?_
  refine(vV y z Wq).mono ?_
  rintro e w' ⟨hb,⟨hc,rfl⟩|⟨hc,rfl⟩⟩
  ·exact .inl ⟨_,rfl,rfl,hc,Ext.az hb⟩
  ·exact .inr ⟨_,rfl,hc,rfl,(aY HB2.o (aY hE'.below hb)).mono gK⟩
 obtain rfl:v=rv (y,z):=hv
 simp only[zp]
 repeat (refine RX.zd ?_;simp only[zp])
 refine RX.jX W2.heap.size _ _ (by rfl) (ak _) (by rfl) (by simp) (by simp) (fun W hW=>by go_simp;try rfl) (fun b9=>?_)
 simp only[zp]
 intro Wb hE hF
 obtain⟨b9',wW,hge,hk9⟩:=hF _ (bK _)
 cases wW
 have hc:y<=z/\z<=2000:=hF _ (nU _ (bK _))
 have HBb:=ae (aY HB2.o (show Ext [] W2 Wb from hE).below)
 have rD:=ae hc
 have rH:=ae (ag (jq HB2.o.size hge) hk9)
 obtain⟨c9,f9,l9⟩:=af hk9
 clear hE hF hc hge hk9 c2 f2 xR n20 n21 n22
 go_upto_region 2 with(fail)
 refine dF fun W3 qm=>?_
 have HB3:=ae (show Below w.heap.size w W3 from by rw[qm];exact(((HBb.o).setCell rH.o.1 _).setCell rH.o.1 _).setCell rH.o.1 _)
 have Ea:=ae (show W3.heap[b9]? =some (.cells #[iv x,iv y,iv z] 120 (0,0)) from by rw[qm];exact aJ (aJ (aJ (rH.o.2) _) _) _)
 have ZM:b9<W3.heap.size:=(aV.1 Ea.o).1
 clear qm c9 f9 l9
 obtain⟨c3,f3,l3⟩:=af ((HB3.o.block _ lw).trans HO.o.blk)
 obtain⟨GX,hcs3⟩:=HW.o W3 (HB3.o.mono gK)
 have n30:=hcs3 0 (by simp)
 simp only[au] at n30
 have n31:=hcs3 1 (by simp)
 simp only[au] at n31
 have n32:=hcs3 2 (by simp)
 simp only[au] at n32
 clear hcs3
 go_wp2_with fail
 refine(qM _ _ _).mono ?_
 rintro e W4 ⟨hb,⟨hc,rfl⟩|⟨hc,rfl⟩⟩
 rotate_left
 ·simp at hc
  have q0:=jS.o
  have q1:=rD.o
  simp only[iL,bZ,cu,dD]
  (repeat (first|rw[aA (by omega)]|rw[ai (by omega)]))
  exact⟨rfl,(aY HB3.o hb).mono gK,.inr ⟨by simp,rfl⟩⟩
 simp at hc
 have HB4:=ae (aY HB3.o hb)
 have VB:=ae hb
 have xI:=ae hc
 clear hb hc c3 f3 GX n30 n31 n32
 obtain⟨c4,f4,l4⟩:=af ((HB4.o.block _ lw).trans HO.o.blk)
 obtain⟨Np,kC⟩:=HW.o W4 (HB4.o.mono gK)
 have n40:=kC 0 (by simp)
 simp only[au] at n40
 have n41:=kC 1 (by simp)
 simp only[au] at n41
 have n42:=kC 2 (by simp)
 simp only[au] at n42
 clear kC
 go_wp2_with fail
 obtain⟨Ms,hMs⟩: ∃Ms,Ms=(Value.slice o s.led.notes.length cc).ownBlock.toList:=⟨_,rfl⟩
 have hO4:=HO.o.below HB4.o
 have hm1:wb∉Ms:=fun h=>hO4.rows.off 1 _ rfl (by rw[hMs] at h;exact dJ.1 h)
 have hm2:b∉Ms:=fun h=>by have:=((hO4.rows.own 1 _ rfl).lt b (by rw[hMs] at h;exact dJ.1 h)).1;omega
 have xG: ∀m∈Ms,m<W4.heap.size:=fun m h=>((hO4.rows.own 1 _ rfl).lt m (by rw[hMs] at h;exact dJ.1 h)).2
 obtain⟨c9,f9,l9⟩:=af ((VB.o.block _ ZM).trans Ea.o)
 have hm9:b9∉Ms:=fun h=>by have:=((HO.o.rows.own 1 _ rfl).lt b9 (by rw[hMs] at h;exact dJ.1 h)).2;have:=rH.o.1;omega
 have HM:=ae hMs
 have jA:=ae hO4
 clear hMs hO4
 refine zg 10 Ms (some 9) [(8,Spec.slice W4.heap.size #[iv x,iv y,iv z] 120 1),(9,⟨fun _ v=> ∃o2 c2,v= .slice o2 (s.led.notes.length+1) c2,fun _ v Wx=>Wx.ownsRow N 120 3 v (s.led.notes.length+1) (aX s.led.notes++[iv x,iv y,iv z])/\(v.ownBlock=(Value.slice o s.led.notes.length cc).ownBlock∨ ∃q,v.ownBlock=some q/\W4.heap.size<=q)⟩)] ?_
 simp only[zt]
 repeat ((first|refine zd ?_|refine zk ?_);simp only[zp])
 refine eF W4.heap.size _ _ 1 (by rfl) (ak _) (by rfl) xG (by simp) (fun W hW=>by go_simp;try rfl) (fun b6=>?_)
 simp only[zp]
 repeat ((first|refine zd ?_|refine zk ?_);simp only[zp])
 refine bM _ (by rfl) (by rfl) (by exact⟨.slice none (s.led.notes.length+1) 0,none,0,rfl⟩) (fun W6 hE hF=>?_) (fun v Wa Wb ho hE=>?_) (fun v hv=>?_)
 ·have hE':Ext [] W4 W6:=hE
  obtain⟨b',hb',hge,hcc⟩:=hF _ (bK _) (by kernel_rfl)
  cases hb'
  have hown6:W6.ownsRow N 120 3 (.slice o s.led.notes.length cc) s.led.notes.length (aX s.led.notes):=aB (Ms:=[]) (jA.o.rows.own 1 _ rfl) hE' (by simp)
  have hsrc:aN 3 W6 (.slice (some ⟨b6,0,none⟩) 1 1) 1 ([iv x,iv y,iv z]):=aN.dm 3 1 hcc rfl (by decide)
  refine Does.mono (dU abU (by rfl) (by rfl) hown6 (by rfl) hsrc (Gq x y z) (by omega) (by omega) (by have:=hE'.size;have:=HB4.o.size;omega)) ?_
  rintro v' W7 ⟨ho,hgr,hcase⟩
  refine⟨aU ho,⟨ho,?_⟩,⟨hgr.os,hgr.tape,hgr.output,hgr.size,fun b hb hn=>hgr.block b hb (fun e=>hn (by rw[HM.o];exact dJ.2 e.symm))⟩⟩
  rcases hcase with h1|h1
  ·exact .inl h1
  ·exact .inr ⟨_,h1,hE'.size⟩
 ·exact⟨aB (Ms:=[]) ho.1 hE (by simp),ho.2⟩
 obtain⟨o7,c7,rfl⟩:=hv
 simp only[zp]
 intro W5 hE hF
 obtain⟨qG,Au⟩:=hF _ (bK _)
 have ik:Ext Ms W4 W5:=hE
 have hbl:=(ik.block wb jA.o.rows.lt hm1).trans jA.o.blk
 obtain⟨c5,f5,l5⟩:=af hbl
 have jc:=ae (ag ik (ag qG (ag Au hbl)))
 have EU:Below N w W5:=(HB4.o.mono gK).trans ⟨ik.os,ik.tape,ik.output,ik.size,fun k hk=>ik.block k (by have:=HB4.o.size;omega) (fun h=>by have:=((jA.o.rows.own 1 _ rfl).lt k (by rw[HM.o] at h;exact dJ.1 h)).1;omega)⟩
 have qc:=ae EU
 clear hE hF ik qG Au hbl EU hm1 hm2 xG c4 f4 Np n40 n41 n42
 go_wp2_with fail
 go_end0
 have q0:=jS.o
 have q1:=rD.o
 have q2:=xI.o
 simp only[iL,bZ,cu,dD]
 (repeat (first|rw[aA (by omega)]|rw[ai (by omega)]))
 refine⟨qc.o.setCell wI _,.inl ⟨rfl,rfl,⟨vt,.slice o7 (s.led.notes.length+1) c7,vw,vu,vr,vh,vk,vs⟩,es,jA.o.put (i:=1) rfl ⟨120,3,.slice o7 (s.led.notes.length+1) c7,s.led.notes.length+1,aX s.led.notes++[iv x,iv y,iv z]⟩ jc.o.1 (fun m hm=>by rw[HM.o] at hm;exact dJ.1 hm) jc.o.2.1 jc.o.2.2.1 (aJ jc.o.2.2.2 _) (by simp[iR,kV,aX]) (jA.o.es)⟩⟩
theorem La (N:Nat) (w:World) (wb:Nat) (s:jF) (V:SV) (es:List KE) (ns:Value) (x y z p q:Int) (hO:jV N w wb s V es) (hn:rW N w ns [x,y,z,p,q]) (hG:gu s) (hyz:y<z):Calls Tryz.prog 178 #[.pointer (some ⟨wb,0,none⟩),ns] w (rC N wb (iL s .tally [x,y,z,p,q]) w):=by
 obtain⟨vt,vn,vw,vu,vr,vh,vk,vs⟩:=V
 obtain⟨o,cc,rfl⟩: ∃o c,vt= .slice o s.led.field.ax.length c:=aU (n:=s.led.field.ax.length) (hO.rows.own 0 _ rfl)
 have HO:=ae hO
 have gK:=eX hO
 obtain⟨b,c,rfl,hbN,hcs⟩:=hn
 have lb:b<w.heap.size:=by omega
 have lw:=hO.rows.lt
 have wI:=hO.rows.base
 have HW:Hid (∀W,Below N w W->b<W.heap.size/\ ∀(j:Nat) (h:j<[x,y,z,p,q].length),W.cell? ⟨b,j,none⟩=some (iv [x,y,z,p,q][j])):=ae (fun W hB=>⟨by have:=hB.size;omega,fun j h=>(jh (hB.block b hbN)).trans (hcs j h)⟩)
 obtain⟨c0,f0,l0⟩:=af hO.blk
 have oZ:=hcs 0 (by simp)
 simp only[au] at oZ
 have n01:=hcs 1 (by simp)
 simp only[au] at n01
 have n02:=hcs 2 (by simp)
 simp only[au] at n02
 have n03:=hcs 3 (by simp)
 simp only[au] at n03
 have n04:=hcs 4 (by simp)
 simp only[au] at n04
 have HB0:Hid (Below w.heap.size w w):=ae (aG _ _)
 have L9:=hG.Ae
 have hwe:=hG.aO
 have jS:=ae hyz
 clear hO hcs hG
 go_enter Tryz.func178,Tryz.ntmps178
 go_wp2_with fail
 refine zg 7 [] none [] ?_
 simp only[zt]
 repeat ((first|refine zd ?_|refine zk ?_);simp only[zp])
 intro W1 hE hF
 have HB1:=ae (aY HB0.o hE.below)
 clear hE hF c0 f0 oZ n01 n02 n03 n04
 obtain⟨c1,f1,l1⟩:=af ((HB1.o.block _ lw).trans HO.o.blk)
 obtain⟨wU,hcs1⟩:=HW.o W1 (HB1.o.mono gK)
 have n10:=hcs1 0 (by simp)
 simp only[au] at n10
 have n11:=hcs1 1 (by simp)
 simp only[au] at n11
 have n12:=hcs1 2 (by simp)
 simp only[au] at n12
 have n13:=hcs1 3 (by simp)
 simp only[au] at n13
 have n14:=hcs1 4 (by simp)
 simp only[au] at n14
 clear hcs1
 go_wp2_with fail
 refine(jk _ _ _).mono ?_
 rintro e W2 ⟨hb,⟨hc,rfl⟩|⟨hc,rfl⟩⟩
 rotate_left
 ·simp at hc
  have q0:=jS.o
  simp only[iL,bZ,cu,dD]
  (repeat (first|rw[aA (by omega)]|rw[ai (by omega)]))
  exact⟨rfl,(aY HB1.o hb).mono gK,.inr ⟨by simp,rfl⟩⟩
 simp at hc
 have HB2:=ae (aY HB1.o hb)
 have HS2:=ae hb
 have rD:=ae hc
 clear hb hc c1 f1 wU n10 n11 n12 n13 n14
 obtain⟨c2,f2,l2⟩:=af ((HB2.o.block _ lw).trans HO.o.blk)
 obtain⟨xR,hcs2⟩:=HW.o W2 (HB2.o.mono gK)
 have n20:=hcs2 0 (by simp)
 simp only[au] at n20
 have n21:=hcs2 1 (by simp)
 simp only[au] at n21
 have n22:=hcs2 2 (by simp)
 simp only[au] at n22
 have n23:=hcs2 3 (by simp)
 simp only[au] at n23
 have n24:=hcs2 4 (by simp)
 simp only[au] at n24
 clear hcs2
 go_wp2_with fail
 refine zg 11 [] none [] ?_
 simp only[zt]
 repeat ((first|refine zd ?_|refine zk ?_);simp only[zp])
 intro W3 hE hF
 have HB3:=ae (aY HB2.o hE.below)
 clear hE hF c2 f2 xR n20 n21 n22 n23 n24
 obtain⟨c3,f3,l3⟩:=af ((HB3.o.block _ lw).trans HO.o.blk)
 obtain⟨GX,hcs3⟩:=HW.o W3 (HB3.o.mono gK)
 have n30:=hcs3 0 (by simp)
 simp only[au] at n30
 have n31:=hcs3 1 (by simp)
 simp only[au] at n31
 have n32:=hcs3 2 (by simp)
 simp only[au] at n32
 have n33:=hcs3 3 (by simp)
 simp only[au] at n33
 have n34:=hcs3 4 (by simp)
 simp only[au] at n34
 clear hcs3
 go_wp2_with fail
 clear hyz
 refine(jk _ _ _).mono ?_
 rintro e W4 ⟨hb,⟨hc,rfl⟩|⟨hc,rfl⟩⟩
 rotate_left
 ·simp at hc
  have q0:=jS.o
  have q1:=rD.o
  simp only[iL,bZ,cu,dD]
  (repeat (first|rw[aA (by omega)]|rw[ai (by omega)]))
  exact⟨rfl,(aY HB3.o hb).mono gK,.inr ⟨by simp,rfl⟩⟩
 simp at hc
 have HB4:=ae (aY HB3.o hb)
 have VB:=ae hb
 have xI:=ae hc
 clear hb hc c3 f3 GX n30 n31 n32 n33 n34
 obtain⟨c4,f4,l4⟩:=af ((HB4.o.block _ lw).trans HO.o.blk)
 obtain⟨Np,kC⟩:=HW.o W4 (HB4.o.mono gK)
 have n40:=kC 0 (by simp)
 simp only[au] at n40
 have n41:=kC 1 (by simp)
 simp only[au] at n41
 have n42:=kC 2 (by simp)
 simp only[au] at n42
 have n43:=kC 3 (by simp)
 simp only[au] at n43
 have n44:=kC 4 (by simp)
 simp only[au] at n44
 clear kC
 go_wp2_with fail
 refine zg 6 [] none [] ?_
 simp only[zt]
 repeat ((first|refine zd ?_|refine zk ?_);simp only[zp])
 intro W5 hE hF
 have oK:=ae (aY HB4.o hE.below)
 clear hE hF c4 f4 Np n40 n41 n42 n43 n44
 obtain⟨c5,f5,l5⟩:=af ((oK.o.block _ lw).trans HO.o.blk)
 obtain⟨lb5,uI⟩:=HW.o W5 (oK.o.mono gK)
 have n50:=uI 0 (by simp)
 simp only[au] at n50
 have n51:=uI 1 (by simp)
 simp only[au] at n51
 have n52:=uI 2 (by simp)
 simp only[au] at n52
 have n53:=uI 3 (by simp)
 simp only[au] at n53
 have n54:=uI 4 (by simp)
 simp only[au] at n54
 clear uI
 go_wp2_with fail
 refine(dZ 2 [decide (z<y)] W5 (by simp) _ (by simp[dL]) _ _ rfl).mono ?_
 rintro e W6 ⟨hb,⟨hc,rfl⟩|⟨hc,rfl⟩⟩
 rotate_left
 ·simp at hc
  have q0:=jS.o
  have q1:=rD.o
  have q2:=xI.o
  (exfalso;omega)
 simp at hc
 have qf:=ae (aY oK.o hb)
 have HS6:=ae hb
 have IU:=ae hc
 clear hb hc c5 f5 lb5 n50 n51 n52 n53 n54
 obtain⟨c6,f6,l6⟩:=af ((qf.o.block _ lw).trans HO.o.blk)
 obtain⟨lb6,uH⟩:=HW.o W6 (qf.o.mono gK)
 have n60:=uH 0 (by simp)
 simp only[au] at n60
 have n61:=uH 1 (by simp)
 simp only[au] at n61
 have n62:=uH 2 (by simp)
 simp only[au] at n62
 have n63:=uH 3 (by simp)
 simp only[au] at n63
 have n64:=uH 4 (by simp)
 simp only[au] at n64
 clear uH
 go_wp2_with fail
 refine RX.gB (fun ps W'=> ¬(p<=q/\q<=s.led.field.rows)/\ps=kG 2/\Below N w W') 19 [] none [(16,⟨fun _ v=>v=rv (p,q),fun _ _ _=>(p<=q/\q<=s.led.field.rows)⟩),(18,Spec.block W6.heap.size #[iv 0,iv 0,iv 0,iv 0,iv 0] 118)] (by rintro ps a1 Wx hdf ⟨h1,rfl,h3⟩;refine⟨hdf,wK (c:=2) h3 ?_ (by decide)⟩;have q0:=jS.o;have q1:=rD.o;have q2:=xI.o;have q3:=IU.o;simp only[iL,bZ,cu,dD];(repeat (first|rw[aA (by omega)]|rw[ai (by omega)]))) (by as_aux_lemma=>kernel_rfl) (by as_aux_lemma=>kernel_rfl) ?_
 simp only[zt]
 repeat (refine RX.zd ?_;simp only[zp])
 refine RX.bM _ (by rfl) (by rfl) ⟨_,rfl⟩ (fun Wq hE2 hF2=>?_) (fun v Wa Wb ho hE=>ho) (fun v hv=>?_)
 ·have hE':Ext [] W6 Wq:=hE2
  refine RX.dB 250 #[.pointer (some ⟨wb,0,none⟩),iv p,iv q] (by go_simp;try rfl) ?_
  refine(uU p q wb s _ Wq ((hE'.block _ (fZ lw qf.o.size) (by simp)).trans ((qf.o.block _ lw).trans HO.o.blk))).mono ?_
  rintro e w' ⟨hb,⟨hc,rfl⟩|⟨hc,rfl⟩⟩
  ·exact .inl ⟨_,rfl,rfl,hc,Ext.az hb⟩
  ·exact .inr ⟨_,rfl,hc,rfl,(aY qf.o (aY hE'.below hb)).mono gK⟩
 obtain rfl:v=rv (p,q):=hv
 simp only[zp]
 repeat (refine RX.zd ?_;simp only[zp])
 refine RX.jX W6.heap.size _ _ (by rfl) (ak _) (by rfl) (by simp) (by simp) (fun W hW=>by go_simp;try rfl) (fun b9=>?_)
 simp only[zp]
 intro Wb hE hF
 obtain⟨b9',wW,hge,hk9⟩:=hF _ (bK _)
 cases wW
 have hc:p<=q/\q<=s.led.field.rows:=hF _ (nU _ (bK _))
 have HBb:=ae (aY qf.o (show Ext [] W6 Wb from hE).below)
 have VC:=ae hc
 have rH:=ae (ag (jq qf.o.size hge) hk9)
 obtain⟨c9,f9,l9⟩:=af hk9
 clear hE hF hc hge hk9 c6 f6 lb6 n60 n61 n62 n63 n64
 go_upto_region 5 with(fail)
 refine dF fun W7 qm=>?_
 have Ba:=ae (show Below w.heap.size w W7 from by rw[qm];exact(((((HBb.o).setCell rH.o.1 _).setCell rH.o.1 _).setCell rH.o.1 _).setCell rH.o.1 _).setCell rH.o.1 _)
 have Ea:=ae (show W7.heap[b9]? =some (.cells #[iv x,iv y,iv z,iv p,iv q] 118 (0,0)) from by rw[qm];exact aJ (aJ (aJ (aJ (aJ (rH.o.2) _) _) _) _) _)
 have ZM:b9<W7.heap.size:=(aV.1 Ea.o).1
 clear qm c9 f9 l9
 obtain⟨c7,f7,l7⟩:=af ((Ba.o.block _ lw).trans HO.o.blk)
 obtain⟨lb7,uG⟩:=HW.o W7 (Ba.o.mono gK)
 have n70:=uG 0 (by simp)
 simp only[au] at n70
 have n71:=uG 1 (by simp)
 simp only[au] at n71
 have n72:=uG 2 (by simp)
 simp only[au] at n72
 have n73:=uG 3 (by simp)
 simp only[au] at n73
 have n74:=uG 4 (by simp)
 simp only[au] at n74
 clear uG
 go_wp2_with fail
 refine(qM _ _ _).mono ?_
 rintro e W8 ⟨hb,⟨hc,rfl⟩|⟨hc,rfl⟩⟩
 rotate_left
 ·simp at hc
  have q0:=jS.o
  have q1:=rD.o
  have q2:=xI.o
  have q3:=IU.o
  have q4:=VC.o
  simp only[iL,bZ,cu,dD]
  (repeat (first|rw[aA (by omega)]|rw[ai (by omega)]))
  exact⟨rfl,(aY Ba.o hb).mono gK,.inr ⟨by simp,rfl⟩⟩
 simp at hc
 have qc:=ae (aY Ba.o hb)
 have HS8:=ae hb
 have HQ5:=ae hc
 clear hb hc c7 f7 lb7 n70 n71 n72 n73 n74
 obtain⟨c8,f8,l8⟩:=af ((qc.o.block _ lw).trans HO.o.blk)
 obtain⟨lb8,Dq⟩:=HW.o W8 (qc.o.mono gK)
 have n80:=Dq 0 (by simp)
 simp only[au] at n80
 have n81:=Dq 1 (by simp)
 simp only[au] at n81
 have n82:=Dq 2 (by simp)
 simp only[au] at n82
 have n83:=Dq 3 (by simp)
 simp only[au] at n83
 have n84:=Dq 4 (by simp)
 simp only[au] at n84
 clear Dq
 go_wp2_with fail
 obtain⟨Ms,hMs⟩: ∃Ms,Ms=(Value.slice o s.led.field.ax.length cc).ownBlock.toList:=⟨_,rfl⟩
 have Hl:=HO.o.below qc.o
 have hm1:wb∉Ms:=fun h=>Hl.rows.off 0 _ rfl (by rw[hMs] at h;exact dJ.1 h)
 have hm2:b∉Ms:=fun h=>by have:=((Hl.rows.own 0 _ rfl).lt b (by rw[hMs] at h;exact dJ.1 h)).1;omega
 have xG: ∀m∈Ms,m<W8.heap.size:=fun m h=>((Hl.rows.own 0 _ rfl).lt m (by rw[hMs] at h;exact dJ.1 h)).2
 obtain⟨c9,f9,l9⟩:=af ((HS8.o.block _ ZM).trans Ea.o)
 have hm9:b9∉Ms:=fun h=>by have:=((HO.o.rows.own 0 _ rfl).lt b9 (by rw[hMs] at h;exact dJ.1 h)).2;have:=rH.o.1;omega
 have HM:=ae hMs
 have jA:=ae Hl
 clear hMs Hl
 refine zg 8 Ms (some 7) [(6,Spec.slice W8.heap.size #[iv x,iv y,iv z,iv p,iv q] 118 1),(7,⟨fun _ v=> ∃o2 c2,v= .slice o2 (s.led.field.ax.length+1) c2,fun _ v Wx=>Wx.ownsRow N 118 5 v (s.led.field.ax.length+1) (dS s.led.field.ax++[iv x,iv y,iv z,iv p,iv q])/\(v.ownBlock=(Value.slice o s.led.field.ax.length cc).ownBlock∨ ∃q,v.ownBlock=some q/\W8.heap.size<=q)⟩)] ?_
 simp only[zt]
 repeat ((first|refine zd ?_|refine zk ?_);simp only[zp])
 refine eF W8.heap.size _ _ 1 (by rfl) (ak _) (by rfl) xG (by simp) (fun W hW=>by go_simp;try rfl) (fun b6=>?_)
 simp only[zp]
 repeat ((first|refine zd ?_|refine zk ?_);simp only[zp])
 refine bM _ (by rfl) (by rfl) (by exact⟨.slice none (s.led.field.ax.length+1) 0,none,0,rfl⟩) (fun W6 hE hF=>?_) (fun v Wa Wb ho hE=>?_) (fun v hv=>?_)
 ·have hE':Ext [] W8 W6:=hE
  obtain⟨b',hb',hge,hcc⟩:=hF _ (bK _) (by kernel_rfl)
  cases hb'
  have hown6:W6.ownsRow N 118 5 (.slice o s.led.field.ax.length cc) s.led.field.ax.length (dS s.led.field.ax):=aB (Ms:=[]) (jA.o.rows.own 0 _ rfl) hE' (by simp)
  have hsrc:aN 5 W6 (.slice (some ⟨b6,0,none⟩) 1 1) 1 ([iv x,iv y,iv z,iv p,iv q]):=aN.dm 5 1 hcc rfl (by decide)
  refine Does.mono (dU Y9 (by rfl) (by rfl) hown6 (by rfl) hsrc (Oo x y z p q) (by omega) (by omega) (by have:=hE'.size;have:=qc.o.size;omega)) ?_
  rintro v' W7 ⟨ho,hgr,hcase⟩
  refine⟨aU ho,⟨ho,?_⟩,⟨hgr.os,hgr.tape,hgr.output,hgr.size,fun b hb hn=>hgr.block b hb (fun e=>hn (by rw[HM.o];exact dJ.2 e.symm))⟩⟩
  rcases hcase with h1|h1
  ·exact .inl h1
  ·exact .inr ⟨_,h1,hE'.size⟩
 ·exact⟨aB (Ms:=[]) ho.1 hE (by simp),ho.2⟩
 obtain⟨o7,c7,rfl⟩:=hv
 simp only[zp]
 intro W9 hE hF
 obtain⟨qG,Au⟩:=hF _ (bK _)
 have ik:Ext Ms W8 W9:=hE
 have hbl:=(ik.block wb jA.o.rows.lt hm1).trans jA.o.blk
 obtain⟨c9,f9,l9⟩:=af hbl
 have jc:=ae (ag ik (ag qG (ag Au hbl)))
 have EU:Below N w W9:=(qc.o.mono gK).trans ⟨ik.os,ik.tape,ik.output,ik.size,fun k hk=>ik.block k (by have:=qc.o.size;omega) (fun h=>by have:=((jA.o.rows.own 0 _ rfl).lt k (by rw[HM.o] at h;exact dJ.1 h)).1;omega)⟩
 have qc:=ae EU
 clear hE hF ik qG Au hbl EU hm1 hm2 xG c8 f8 lb8 n80 n81 n82 n83 n84
 go_wp2_with fail
 go_end0
 have q0:=jS.o
 have q1:=rD.o
 have q2:=xI.o
 have q3:=IU.o
 have q4:=VC.o
 have q5:=HQ5.o
 simp only[iL,bZ,cu,dD]
 (repeat (first|rw[aA (by omega)]|rw[ai (by omega)]))
 refine⟨qc.o.setCell wI _,.inl ⟨rfl,rfl,⟨.slice o7 (s.led.field.ax.length+1) c7,vn,vw,vu,vr,vh,vk,vs⟩,es,jA.o.put (i:=0) rfl ⟨118,5,.slice o7 (s.led.field.ax.length+1) c7,s.led.field.ax.length+1,dS s.led.field.ax++[iv x,iv y,iv z,iv p,iv q]⟩ jc.o.1 (fun m hm=>by rw[HM.o] at hm;exact dJ.1 hm) jc.o.2.1 jc.o.2.2.1 (aJ jc.o.2.2.2 _) (by simp[iR,kR,dS]) (jA.o.es)⟩⟩
theorem Lc (N:Nat) (w:World) (wb:Nat) (s:jF) (V:SV) (es:List KE) (ns:Value) (x y z p q:Int) (hO:jV N w wb s V es) (hn:rW N w ns [x,y,z,p,q]) (hG:gu s) (hyz:z<=y):Calls Tryz.prog 178 #[.pointer (some ⟨wb,0,none⟩),ns] w (rC N wb (iL s .tally [x,y,z,p,q]) w):=by
 obtain⟨vt,vn,vw,vu,vr,vh,vk,vs⟩:=V
 obtain⟨o,cc,rfl⟩: ∃o c,vt= .slice o s.led.field.ax.length c:=aU (n:=s.led.field.ax.length) (hO.rows.own 0 _ rfl)
 have HO:=ae hO
 have gK:=eX hO
 obtain⟨b,c,rfl,hbN,hcs⟩:=hn
 have lb:b<w.heap.size:=by omega
 have lw:=hO.rows.lt
 have wI:=hO.rows.base
 have HW:Hid (∀W,Below N w W->b<W.heap.size/\ ∀(j:Nat) (h:j<[x,y,z,p,q].length),W.cell? ⟨b,j,none⟩=some (iv [x,y,z,p,q][j])):=ae (fun W hB=>⟨by have:=hB.size;omega,fun j h=>(jh (hB.block b hbN)).trans (hcs j h)⟩)
 obtain⟨c0,f0,l0⟩:=af hO.blk
 have oZ:=hcs 0 (by simp)
 simp only[au] at oZ
 have n01:=hcs 1 (by simp)
 simp only[au] at n01
 have n02:=hcs 2 (by simp)
 simp only[au] at n02
 have n03:=hcs 3 (by simp)
 simp only[au] at n03
 have n04:=hcs 4 (by simp)
 simp only[au] at n04
 have HB0:Hid (Below w.heap.size w w):=ae (aG _ _)
 have L9:=hG.Ae
 have hwe:=hG.aO
 have jS:=ae hyz
 clear hO hcs hG
 go_enter Tryz.func178,Tryz.ntmps178
 go_wp2_with fail
 refine zg 7 [] none [] ?_
 simp only[zt]
 repeat ((first|refine zd ?_|refine zk ?_);simp only[zp])
 intro W1 hE hF
 have HB1:=ae (aY HB0.o hE.below)
 clear hE hF c0 f0 oZ n01 n02 n03 n04
 obtain⟨c1,f1,l1⟩:=af ((HB1.o.block _ lw).trans HO.o.blk)
 obtain⟨wU,hcs1⟩:=HW.o W1 (HB1.o.mono gK)
 have n10:=hcs1 0 (by simp)
 simp only[au] at n10
 have n11:=hcs1 1 (by simp)
 simp only[au] at n11
 have n12:=hcs1 2 (by simp)
 simp only[au] at n12
 have n13:=hcs1 3 (by simp)
 simp only[au] at n13
 have n14:=hcs1 4 (by simp)
 simp only[au] at n14
 clear hcs1
 go_wp2_with fail
 refine(jk _ _ _).mono ?_
 rintro e W2 ⟨hb,⟨hc,rfl⟩|⟨hc,rfl⟩⟩
 rotate_left
 ·simp at hc
  have q0:=jS.o
  simp only[iL,bZ,cu,dD]
  (repeat (first|rw[aA (by omega)]|rw[ai (by omega)]))
  exact⟨rfl,(aY HB1.o hb).mono gK,.inr ⟨by simp,rfl⟩⟩
 simp at hc
 have HB2:=ae (aY HB1.o hb)
 have HS2:=ae hb
 have rD:=ae hc
 clear hb hc c1 f1 wU n10 n11 n12 n13 n14
 obtain⟨c2,f2,l2⟩:=af ((HB2.o.block _ lw).trans HO.o.blk)
 obtain⟨xR,hcs2⟩:=HW.o W2 (HB2.o.mono gK)
 have n20:=hcs2 0 (by simp)
 simp only[au] at n20
 have n21:=hcs2 1 (by simp)
 simp only[au] at n21
 have n22:=hcs2 2 (by simp)
 simp only[au] at n22
 have n23:=hcs2 3 (by simp)
 simp only[au] at n23
 have n24:=hcs2 4 (by simp)
 simp only[au] at n24
 clear hcs2
 go_wp2_with fail
 refine zg 11 [] none [] ?_
 simp only[zt]
 repeat ((first|refine zd ?_|refine zk ?_);simp only[zp])
 intro W3 hE hF
 have HB3:=ae (aY HB2.o hE.below)
 clear hE hF c2 f2 xR n20 n21 n22 n23 n24
 obtain⟨c3,f3,l3⟩:=af ((HB3.o.block _ lw).trans HO.o.blk)
 obtain⟨GX,hcs3⟩:=HW.o W3 (HB3.o.mono gK)
 have n30:=hcs3 0 (by simp)
 simp only[au] at n30
 have n31:=hcs3 1 (by simp)
 simp only[au] at n31
 have n32:=hcs3 2 (by simp)
 simp only[au] at n32
 have n33:=hcs3 3 (by simp)
 simp only[au] at n33
 have n34:=hcs3 4 (by simp)
 simp only[au] at n34
 clear hcs3
 go_wp2_with fail
 clear hyz
 refine(jk _ _ _).mono ?_
 rintro e W4 ⟨hb,⟨hc,rfl⟩|⟨hc,rfl⟩⟩
 rotate_left
 ·simp at hc
  have q0:=jS.o
  have q1:=rD.o
  simp only[iL,bZ,cu,dD]
  (repeat (first|rw[aA (by omega)]|rw[ai (by omega)]))
  exact⟨rfl,(aY HB3.o hb).mono gK,.inr ⟨by simp,rfl⟩⟩
 simp at hc
 have HB4:=ae (aY HB3.o hb)
 have VB:=ae hb
 have xI:=ae hc
 clear hb hc c3 f3 GX n30 n31 n32 n33 n34
 obtain⟨c4,f4,l4⟩:=af ((HB4.o.block _ lw).trans HO.o.blk)
 obtain⟨Np,kC⟩:=HW.o W4 (HB4.o.mono gK)
 have n40:=kC 0 (by simp)
 simp only[au] at n40
 have n41:=kC 1 (by simp)
 simp only[au] at n41
 have n42:=kC 2 (by simp)
 simp only[au] at n42
 have n43:=kC 3 (by simp)
 simp only[au] at n43
 have n44:=kC 4 (by simp)
 simp only[au] at n44
 clear kC
 go_wp2_with fail
 refine zg 6 [] none [] ?_
 simp only[zt]
 repeat ((first|refine zd ?_|refine zk ?_);simp only[zp])
 intro W5 hE hF
 have oK:=ae (aY HB4.o hE.below)
 clear hE hF c4 f4 Np n40 n41 n42 n43 n44
 obtain⟨c5,f5,l5⟩:=af ((oK.o.block _ lw).trans HO.o.blk)
 obtain⟨lb5,uI⟩:=HW.o W5 (oK.o.mono gK)
 have n50:=uI 0 (by simp)
 simp only[au] at n50
 have n51:=uI 1 (by simp)
 simp only[au] at n51
 have n52:=uI 2 (by simp)
 simp only[au] at n52
 have n53:=uI 3 (by simp)
 simp only[au] at n53
 have n54:=uI 4 (by simp)
 simp only[au] at n54
 clear uI
 go_wp2_with fail
 refine(dZ 2 [decide (z<y)] W5 (by simp) _ (by simp[dL]) _ _ rfl).mono ?_
 rintro e W6 ⟨hb,⟨hc,rfl⟩|⟨hc,rfl⟩⟩
 rotate_left
 ·simp at hc
  have q0:=jS.o
  have q1:=rD.o
  have q2:=xI.o
  simp only[iL,bZ,cu,dD]
  (repeat (first|rw[aA (by omega)]|rw[ai (by omega)]))
  exact⟨rfl,(aY oK.o hb).mono gK,.inr ⟨by simp,rfl⟩⟩
 simp at hc
 have qf:=ae (aY oK.o hb)
 have HS6:=ae hb
 have IU:=ae hc
 clear hb hc c5 f5 lb5 n50 n51 n52 n53 n54
 obtain⟨c6,f6,l6⟩:=af ((qf.o.block _ lw).trans HO.o.blk)
 obtain⟨lb6,uH⟩:=HW.o W6 (qf.o.mono gK)
 have n60:=uH 0 (by simp)
 simp only[au] at n60
 have n61:=uH 1 (by simp)
 simp only[au] at n61
 have n62:=uH 2 (by simp)
 simp only[au] at n62
 have n63:=uH 3 (by simp)
 simp only[au] at n63
 have n64:=uH 4 (by simp)
 simp only[au] at n64
 clear uH
 go_wp2_with fail
 refine RX.gB (fun ps W'=> ¬(p<=q/\q<=s.led.field.rows)/\ps=kG 2/\Below N w W') 19 [] none [(16,⟨fun _ v=>v=rv (p,q),fun _ _ _=>(p<=q/\q<=s.led.field.rows)⟩),(18,Spec.block W6.heap.size #[iv 0,iv 0,iv 0,iv 0,iv 0] 118)] (by rintro ps a1 Wx hdf ⟨h1,rfl,h3⟩;refine⟨hdf,wK (c:=2) h3 ?_ (by decide)⟩;have q0:=jS.o;have q1:=rD.o;have q2:=xI.o;have q3:=IU.o;simp only[iL,bZ,cu,dD];(repeat (first|rw[aA (by omega)]|rw[ai (by omega)]))) (by as_aux_lemma=>kernel_rfl) (by as_aux_lemma=>kernel_rfl) ?_
 simp only[zt]
 repeat (refine RX.zd ?_;simp only[zp])
 refine RX.bM _ (by rfl) (by rfl) ⟨_,rfl⟩ (fun Wq hE2 hF2=>?_) (fun v Wa Wb ho hE=>ho) (fun v hv=>?_)
 ·have hE':Ext [] W6 Wq:=hE2
  refine RX.dB 250 #[.pointer (some ⟨wb,0,none⟩),iv p,iv q] (by go_simp;try rfl) ?_
  refine(uU p q wb s _ Wq ((hE'.block _ (fZ lw qf.o.size) (by simp)).trans ((qf.o.block _ lw).trans HO.o.blk))).mono ?_
  rintro e w' ⟨hb,⟨hc,rfl⟩|⟨hc,rfl⟩⟩
  ·exact .inl ⟨_,rfl,rfl,hc,Ext.az hb⟩
  ·exact .inr ⟨_,rfl,hc,rfl,(aY qf.o (aY hE'.below hb)).mono gK⟩
 obtain rfl:v=rv (p,q):=hv
 simp only[zp]
 repeat (refine RX.zd ?_;simp only[zp])
 refine RX.jX W6.heap.size _ _ (by rfl) (ak _) (by rfl) (by simp) (by simp) (fun W hW=>by go_simp;try rfl) (fun b9=>?_)
 simp only[zp]
 intro Wb hE hF
 obtain⟨b9',wW,hge,hk9⟩:=hF _ (bK _)
 cases wW
 have hc:p<=q/\q<=s.led.field.rows:=hF _ (nU _ (bK _))
 have HBb:=ae (aY qf.o (show Ext [] W6 Wb from hE).below)
 have VC:=ae hc
 have rH:=ae (ag (jq qf.o.size hge) hk9)
 obtain⟨c9,f9,l9⟩:=af hk9
 clear hE hF hc hge hk9 c6 f6 lb6 n60 n61 n62 n63 n64
 go_upto_region 5 with(fail)
 refine dF fun W7 qm=>?_
 have Ba:=ae (show Below w.heap.size w W7 from by rw[qm];exact(((((HBb.o).setCell rH.o.1 _).setCell rH.o.1 _).setCell rH.o.1 _).setCell rH.o.1 _).setCell rH.o.1 _)
 have Ea:=ae (show W7.heap[b9]? =some (.cells #[iv x,iv y,iv z,iv p,iv q] 118 (0,0)) from by rw[qm];exact aJ (aJ (aJ (aJ (aJ (rH.o.2) _) _) _) _) _)
 have ZM:b9<W7.heap.size:=(aV.1 Ea.o).1
 clear qm c9 f9 l9
 obtain⟨c7,f7,l7⟩:=af ((Ba.o.block _ lw).trans HO.o.blk)
 obtain⟨lb7,uG⟩:=HW.o W7 (Ba.o.mono gK)
 have n70:=uG 0 (by simp)
 simp only[au] at n70
 have n71:=uG 1 (by simp)
 simp only[au] at n71
 have n72:=uG 2 (by simp)
 simp only[au] at n72
 have n73:=uG 3 (by simp)
 simp only[au] at n73
 have n74:=uG 4 (by simp)
 simp only[au] at n74
 clear uG
 go_wp2_with fail
 refine(qM _ _ _).mono ?_
 rintro e W8 ⟨hb,⟨hc,rfl⟩|⟨hc,rfl⟩⟩
 rotate_left
 ·simp at hc
  have q0:=jS.o
  have q1:=rD.o
  have q2:=xI.o
  have q3:=IU.o
  have q4:=VC.o
  simp only[iL,bZ,cu,dD]
  (repeat (first|rw[aA (by omega)]|rw[ai (by omega)]))
  exact⟨rfl,(aY Ba.o hb).mono gK,.inr ⟨by simp,rfl⟩⟩
 simp at hc
 have qc:=ae (aY Ba.o hb)
 have HS8:=ae hb
 have HQ5:=ae hc
 clear hb hc c7 f7 lb7 n70 n71 n72 n73 n74
 obtain⟨c8,f8,l8⟩:=af ((qc.o.block _ lw).trans HO.o.blk)
 obtain⟨lb8,Dq⟩:=HW.o W8 (qc.o.mono gK)
 have n80:=Dq 0 (by simp)
 simp only[au] at n80
 have n81:=Dq 1 (by simp)
 simp only[au] at n81
 have n82:=Dq 2 (by simp)
 simp only[au] at n82
 have n83:=Dq 3 (by simp)
 simp only[au] at n83
 have n84:=Dq 4 (by simp)
 simp only[au] at n84
 clear Dq
 go_wp2_with fail
 obtain⟨Ms,hMs⟩: ∃Ms,Ms=(Value.slice o s.led.field.ax.length cc).ownBlock.toList:=⟨_,rfl⟩
 have Hl:=HO.o.below qc.o
 have hm1:wb∉Ms:=fun h=>Hl.rows.off 0 _ rfl (by rw[hMs] at h;exact dJ.1 h)
 have hm2:b∉Ms:=fun h=>by have:=((Hl.rows.own 0 _ rfl).lt b (by rw[hMs] at h;exact dJ.1 h)).1;omega
 have xG: ∀m∈Ms,m<W8.heap.size:=fun m h=>((Hl.rows.own 0 _ rfl).lt m (by rw[hMs] at h;exact dJ.1 h)).2
 obtain⟨c9,f9,l9⟩:=af ((HS8.o.block _ ZM).trans Ea.o)
 have hm9:b9∉Ms:=fun h=>by have:=((HO.o.rows.own 0 _ rfl).lt b9 (by rw[hMs] at h;exact dJ.1 h)).2;have:=rH.o.1;omega
 have HM:=ae hMs
 have jA:=ae Hl
 clear hMs Hl
 refine zg 8 Ms (some 7) [(6,Spec.slice W8.heap.size #[iv x,iv y,iv z,iv p,iv q] 118 1),(7,⟨fun _ v=> ∃o2 c2,v= .slice o2 (s.led.field.ax.length+1) c2,fun _ v Wx=>Wx.ownsRow N 118 5 v (s.led.field.ax.length+1) (dS s.led.field.ax++[iv x,iv y,iv z,iv p,iv q])/\(v.ownBlock=(Value.slice o s.led.field.ax.length cc).ownBlock∨ ∃q,v.ownBlock=some q/\W8.heap.size<=q)⟩)] ?_
 simp only[zt]
 repeat ((first|refine zd ?_|refine zk ?_);simp only[zp])
 refine eF W8.heap.size _ _ 1 (by rfl) (ak _) (by rfl) xG (by simp) (fun W hW=>by go_simp;try rfl) (fun b6=>?_)
 simp only[zp]
 repeat ((first|refine zd ?_|refine zk ?_);simp only[zp])
 refine bM _ (by rfl) (by rfl) (by exact⟨.slice none (s.led.field.ax.length+1) 0,none,0,rfl⟩) (fun W6 hE hF=>?_) (fun v Wa Wb ho hE=>?_) (fun v hv=>?_)
 ·have hE':Ext [] W8 W6:=hE
  obtain⟨b',hb',hge,hcc⟩:=hF _ (bK _) (by kernel_rfl)
  cases hb'
  have hown6:W6.ownsRow N 118 5 (.slice o s.led.field.ax.length cc) s.led.field.ax.length (dS s.led.field.ax):=aB (Ms:=[]) (jA.o.rows.own 0 _ rfl) hE' (by simp)
  have hsrc:aN 5 W6 (.slice (some ⟨b6,0,none⟩) 1 1) 1 ([iv x,iv y,iv z,iv p,iv q]):=aN.dm 5 1 hcc rfl (by decide)
  refine Does.mono (dU Y9 (by rfl) (by rfl) hown6 (by rfl) hsrc (Oo x y z p q) (by omega) (by omega) (by have:=hE'.size;have:=qc.o.size;omega)) ?_
  rintro v' W7 ⟨ho,hgr,hcase⟩
  refine⟨aU ho,⟨ho,?_⟩,⟨hgr.os,hgr.tape,hgr.output,hgr.size,fun b hb hn=>hgr.block b hb (fun e=>hn (by rw[HM.o];exact dJ.2 e.symm))⟩⟩
  rcases hcase with h1|h1
  ·exact .inl h1
  ·exact .inr ⟨_,h1,hE'.size⟩
 ·exact⟨aB (Ms:=[]) ho.1 hE (by simp),ho.2⟩
 obtain⟨o7,c7,rfl⟩:=hv
 simp only[zp]
 intro W9 hE hF
 obtain⟨qG,Au⟩:=hF _ (bK _)
 have ik:Ext Ms W8 W9:=hE
 have hbl:=(ik.block wb jA.o.rows.lt hm1).trans jA.o.blk
 obtain⟨c9,f9,l9⟩:=af hbl
 have jc:=ae (ag ik (ag qG (ag Au hbl)))
 have EU:Below N w W9:=(qc.o.mono gK).trans ⟨ik.os,ik.tape,ik.output,ik.size,fun k hk=>ik.block k (by have:=qc.o.size;omega) (fun h=>by have:=((jA.o.rows.own 0 _ rfl).lt k (by rw[HM.o] at h;exact dJ.1 h)).1;omega)⟩
 have qc:=ae EU
 clear hE hF ik qG Au hbl EU hm1 hm2 xG c8 f8 lb8 n80 n81 n82 n83 n84
 go_wp2_with fail
 go_end0
 have q0:=jS.o
 have q1:=rD.o
 have q2:=xI.o
 have q3:=IU.o
 have q4:=VC.o
 have q5:=HQ5.o
 simp only[iL,bZ,cu,dD]
 (repeat (first|rw[aA (by omega)]|rw[ai (by omega)]))
 refine⟨qc.o.setCell wI _,.inl ⟨rfl,rfl,⟨.slice o7 (s.led.field.ax.length+1) c7,vn,vw,vu,vr,vh,vk,vs⟩,es,jA.o.put (i:=0) rfl ⟨118,5,.slice o7 (s.led.field.ax.length+1) c7,s.led.field.ax.length+1,dS s.led.field.ax++[iv x,iv y,iv z,iv p,iv q]⟩ jc.o.1 (fun m hm=>by rw[HM.o] at hm;exact dJ.1 hm) jc.o.2.1 jc.o.2.2.1 (aJ jc.o.2.2.2 _) (by simp[iR,kR,dS]) (jA.o.es)⟩⟩
theorem yZ (N:Nat) (w:World) (wb:Nat) (s:jF) (V:SV) (es:List KE) (ns:Value) (x y z p q:Int) (hO:jV N w wb s V es) (hn:rW N w ns [x,y,z,p,q]) (hG:gu s):
 Calls Tryz.prog 178 #[.pointer (some ⟨wb,0,none⟩),ns] w (rC N wb (iL s .tally [x,y,z,p,q]) w):=by
 by_cases h:y<z
 ·exact La N w wb s V es ns x y z p q hO hn hG h
 ·exact Lc N w wb s V es ns x y z p q hO hn hG (by omega)
theorem try_any (N:Nat) (w:World) (wb:Nat) (s:jF) (V:SV) (es:List KE) (ns:Value) (x y z:Int) (hO:jV N w wb s V es) (hn:rW N w ns [x,y,z]) (hG:gu s) (hx:(0<=x/\x<=9999)/\0<=y/\y<=9999):Calls Tryz.prog 195 #[.pointer (some ⟨wb,0,none⟩),ns] w (rC N wb (iL s .xK [x,y,z]) w):=by
 obtain⟨vt,vn,vw,vu,vr,vh,vk,vs⟩:=V
 obtain⟨ok,ck,rfl⟩: ∃o c,vk= .slice o es.length c:=aU (n:=es.length) (hO.rows.own 6 _ rfl)
 obtain⟨o,cc,rfl⟩: ∃o c,vs= .slice o s.dn.aK.length c:=aU (n:=s.dn.aK.length) (hO.rows.own 7 _ rfl)
 have HO:=ae hO
 have gK:=eX hO
 obtain⟨b,c,rfl,hbN,hcs⟩:=hn
 have lb:b<w.heap.size:=by omega
 have lw:=hO.rows.lt
 have wI:=hO.rows.base
 have HW:Hid (∀W,Below N w W->b<W.heap.size/\ ∀(j:Nat) (h:j<[x,y,z].length),W.cell? ⟨b,j,none⟩=some (iv [x,y,z][j])):=ae (fun W hB=>⟨by have:=hB.size;omega,fun j h=>(jh (hB.block b hbN)).trans (hcs j h)⟩)
 obtain⟨c0,f0,l0⟩:=af hO.blk
 have oZ:=hcs 0 (by simp)
 simp only[au] at oZ
 have n01:=hcs 1 (by simp)
 simp only[au] at n01
 have n02:=hcs 2 (by simp)
 simp only[au] at n02
 have HB0:Hid (Below w.heap.size w w):=ae (aG _ _)
 have L9:=hG.aK
 have hes:es.length=s.dn.aT.length:=by rw[<-hO.es];simp
 have jS:=ae hes
 clear hes
 clear hO hcs hG
 go_enter Tryz.func195,Tryz.ntmps195
 go_wp2_with fail
 refine zg 8 [] none [] ?_
 simp only[zt]
 repeat ((first|refine zd ?_|refine zk ?_);simp only[zp])
 intro W1 hE hF
 have HB1:=ae (aY HB0.o hE.below)
 clear hE hF c0 f0 oZ n01 n02
 obtain⟨c1,f1,l1⟩:=af ((HB1.o.block _ lw).trans HO.o.blk)
 obtain⟨wU,hcs1⟩:=HW.o W1 (HB1.o.mono gK)
 have n10:=hcs1 0 (by simp)
 simp only[au] at n10
 have n11:=hcs1 1 (by simp)
 simp only[au] at n11
 have n12:=hcs1 2 (by simp)
 simp only[au] at n12
 clear hcs1
 go_wp2_with fail
 refine(jk _ _ _).mono ?_
 rintro e W2 ⟨hb,⟨hc,rfl⟩|⟨hc,rfl⟩⟩
 rotate_left
 ·simp at hc
  have q0:=jS.o
  simp only[iL,bZ,cu,dD]
  (repeat (first|rw[aA (by omega)]|rw[ai (by omega)]))
  exact⟨rfl,(aY HB1.o hb).mono gK,.inr ⟨by simp,rfl⟩⟩
 simp at hc
 have HB2:=ae (aY HB1.o hb)
 have HS2:=ae hb
 have rD:=ae hc
 clear hb hc c1 f1 wU n10 n11 n12
 obtain⟨c2,f2,l2⟩:=af ((HB2.o.block _ lw).trans HO.o.blk)
 obtain⟨xR,hcs2⟩:=HW.o W2 (HB2.o.mono gK)
 have n20:=hcs2 0 (by simp)
 simp only[au] at n20
 have n21:=hcs2 1 (by simp)
 simp only[au] at n21
 have n22:=hcs2 2 (by simp)
 simp only[au] at n22
 clear hcs2
 go_wp2_with fail
 refine RX.gB (fun ps W'=> ¬(y<=z/\z<=100/\z<=y+100)/\ps=kG 2/\Below N w W') 8 [] none [(6,⟨fun _ v=>v=rv (y,z),fun _ _ _=>(y<=z/\z<=100/\z<=y+100)⟩),(7,Spec.block W2.heap.size #[iv 0,iv 0] 112)] (by rintro ps a1 Wx hdf ⟨h1,rfl,h3⟩;refine⟨hdf,wK (c:=2) h3 ?_ (by decide)⟩;have q0:=jS.o;have q1:=rD.o;simp only[iL,bZ,cu,dD];(repeat (first|rw[aA (by omega)]|rw[ai (by omega)]))) (by as_aux_lemma=>kernel_rfl) (by as_aux_lemma=>kernel_rfl) ?_
 simp only[zt]
 repeat (refine RX.zd ?_;simp only[zp])
 refine RX.bM _ (by rfl) (by rfl) ⟨_,rfl⟩ (fun Wq hE2 hF2=>?_) (fun v Wa Wb ho hE=>ho) (fun v hv=>?_)
 ·have hE':Ext [] W2 Wq:=hE2
  refine RX.dB 260 #[iv y,iv z,iv 100] (by go_simp;try rfl) ?_
  refine(wJ y z 100 Wq (by omega)).mono ?_
  rintro e w' ⟨hb,⟨hc,rfl⟩|⟨hc,rfl⟩⟩
  ·exact .inl ⟨_,rfl,rfl,hc,Ext.az hb⟩
  ·exact .inr ⟨_,rfl,hc,rfl,(aY HB2.o (aY hE'.below hb)).mono gK⟩
 obtain rfl:v=rv (y,z):=hv
 simp only[zp]
 repeat (refine RX.zd ?_;simp only[zp])
 refine RX.jX W2.heap.size _ _ (by rfl) (ak _) (by rfl) (by simp) (by simp) (fun W hW=>by go_simp;try rfl) (fun b9=>?_)
 simp only[zp]
 intro Wb hE hF
 obtain⟨b9',wW,hge,hk9⟩:=hF _ (bK _)
 cases wW
 have hc:y<=z/\z<=100/\z<=y+100:=hF _ (nU _ (bK _))
 have HBb:=ae (aY HB2.o (show Ext [] W2 Wb from hE).below)
 have xI:=ae hc
 have rH:=ae (ag (jq HB2.o.size hge) hk9)
 obtain⟨c9,f9,l9⟩:=af hk9
 clear hE hF hc hge hk9 c2 f2 xR n20 n21 n22
 go_upto_region 3 with(fail)
 refine dF fun W3 qm=>?_
 have HB3:=ae (show Below w.heap.size w W3 from by rw[qm];exact((HBb.o).setCell rH.o.1 _).setCell rH.o.1 _)
 have Ea:=ae (show W3.heap[b9]? =some (.cells #[iv y,iv z] 112 (0,0)) from by rw[qm];exact aJ (aJ (rH.o.2) _) _)
 have ZM:b9<W3.heap.size:=(aV.1 Ea.o).1
 clear qm c9 f9 l9
 obtain⟨c3,f3,l3⟩:=af ((HB3.o.block _ lw).trans HO.o.blk)
 obtain⟨GX,hcs3⟩:=HW.o W3 (HB3.o.mono gK)
 have n30:=hcs3 0 (by simp)
 simp only[au] at n30
 have n31:=hcs3 1 (by simp)
 simp only[au] at n31
 have n32:=hcs3 2 (by simp)
 simp only[au] at n32
 clear hcs3
 go_wp2_with fail
 refine(qM _ _ _).mono ?_
 rintro e W4 ⟨hb,⟨hc,rfl⟩|⟨hc,rfl⟩⟩
 rotate_left
 ·simp at hc
  have q0:=jS.o
  have q1:=rD.o
  have q2:=xI.o
  simp only[iL,bZ,cu,dD]
  (repeat (first|rw[aA (by omega)]|rw[ai (by omega)]))
  exact⟨rfl,(aY HB3.o hb).mono gK,.inr ⟨by simp,rfl⟩⟩
 simp at hc
 have HB4:=ae (aY HB3.o hb)
 have VB:=ae hb
 have IU:=ae hc
 clear hb hc c3 f3 GX n30 n31 n32
 obtain⟨c4,f4,l4⟩:=af ((HB4.o.block _ lw).trans HO.o.blk)
 obtain⟨Np,kC⟩:=HW.o W4 (HB4.o.mono gK)
 have n40:=kC 0 (by simp)
 simp only[au] at n40
 have n41:=kC 1 (by simp)
 simp only[au] at n41
 have n42:=kC 2 (by simp)
 simp only[au] at n42
 clear kC
 go_wp2_with fail
 obtain⟨Ms,hMs⟩: ∃Ms,Ms=(Value.slice o s.dn.aK.length cc).ownBlock.toList:=⟨_,rfl⟩
 have hO4:=HO.o.below HB4.o
 have hm1:wb∉Ms:=fun h=>hO4.rows.off 7 _ rfl (by rw[hMs] at h;exact dJ.1 h)
 have hm2:b∉Ms:=fun h=>by have:=((hO4.rows.own 7 _ rfl).lt b (by rw[hMs] at h;exact dJ.1 h)).1;omega
 have xG: ∀m∈Ms,m<W4.heap.size:=fun m h=>((hO4.rows.own 7 _ rfl).lt m (by rw[hMs] at h;exact dJ.1 h)).2
 obtain⟨c9,f9,l9⟩:=af ((VB.o.block _ ZM).trans Ea.o)
 have hm9:b9∉Ms:=fun h=>by have:=((HO.o.rows.own 7 _ rfl).lt b9 (by rw[hMs] at h;exact dJ.1 h)).2;have:=rH.o.1;omega
 have HM:=ae hMs
 have jA:=ae hO4
 clear hMs hO4
 refine zg 12 Ms (some 11) [(10,Spec.slice W4.heap.size #[.bool true,iv x,iv y,iv z] 124 1),(11,⟨fun _ v=> ∃o2 c2,v= .slice o2 (s.dn.aK.length+1) c2,fun _ v Wx=>Wx.ownsRow N 124 4 v (s.dn.aK.length+1) (gV s.dn.aK++[.bool true,iv x,iv y,iv z])/\(v.ownBlock=(Value.slice o s.dn.aK.length cc).ownBlock∨ ∃q,v.ownBlock=some q/\W4.heap.size<=q)⟩)] ?_
 simp only[zt]
 repeat ((first|refine zd ?_|refine zk ?_);simp only[zp])
 refine eF W4.heap.size _ _ 1 (by rfl) (ak _) (by rfl) xG (by simp) (fun W hW=>by go_simp;try rfl) (fun b6=>?_)
 simp only[zp]
 repeat ((first|refine zd ?_|refine zk ?_);simp only[zp])
 refine bM _ (by rfl) (by rfl) (by exact⟨.slice none (s.dn.aK.length+1) 0,none,0,rfl⟩) (fun W6 hE hF=>?_) (fun v Wa Wb ho hE=>?_) (fun v hv=>?_)
 ·have hE':Ext [] W4 W6:=hE
  obtain⟨b',hb',hge,hcc⟩:=hF _ (bK _) (by kernel_rfl)
  cases hb'
  have hown6:W6.ownsRow N 124 4 (.slice o s.dn.aK.length cc) s.dn.aK.length (gV s.dn.aK):=aB (Ms:=[]) (jA.o.rows.own 7 _ rfl) hE' (by simp)
  have hsrc:aN 4 W6 (.slice (some ⟨b6,0,none⟩) 1 1) 1 ([.bool true,iv x,iv y,iv z]):=aN.dm 4 1 hcc rfl (by decide)
  refine Does.mono (dU abS (by rfl) (by rfl) hown6 (by rfl) hsrc (ab4 x y z) (by omega) (by omega) (by have:=hE'.size;have:=HB4.o.size;omega)) ?_
  rintro v' W7 ⟨ho,hgr,hcase⟩
  refine⟨aU ho,⟨ho,?_⟩,⟨hgr.os,hgr.tape,hgr.output,hgr.size,fun b hb hn=>hgr.block b hb (fun e=>hn (by rw[HM.o];exact dJ.2 e.symm))⟩⟩
  rcases hcase with h1|h1
  ·exact .inl h1
  ·exact .inr ⟨_,h1,hE'.size⟩
 ·exact⟨aB (Ms:=[]) ho.1 hE (by simp),ho.2⟩
 obtain⟨o7,c7,rfl⟩:=hv
 simp only[zp]
 intro W5 hE hF
 obtain⟨qG,Au⟩:=hF _ (bK _)
 have ik:Ext Ms W4 W5:=hE
 have hbl:=(ik.block wb jA.o.rows.lt hm1).trans jA.o.blk
 obtain⟨c5,f5,l5⟩:=af hbl
 have jc:=ae (ag ik (ag qG (ag Au hbl)))
 have EU:Below N w W5:=(HB4.o.mono gK).trans ⟨ik.os,ik.tape,ik.output,ik.size,fun k hk=>ik.block k (by have:=HB4.o.size;omega) (fun h=>by have:=((jA.o.rows.own 7 _ rfl).lt k (by rw[HM.o] at h;exact dJ.1 h)).1;omega)⟩
 have qc:=ae EU
 clear hE hF ik qG Au hbl EU hm1 hm2 xG c4 f4 Np n40 n41 n42
 go_wp2_with fail
 go_end0
 have q0:=jS.o
 have q1:=rD.o
 have q2:=xI.o
 have q3:=IU.o
 simp only[iL,bZ,cu,dD]
 (repeat (first|rw[aA (by omega)]|rw[ai (by omega)]))
 refine⟨qc.o.setCell wI _,.inl ⟨rfl,rfl,⟨vt,vn,vw,vu,vr,vh,.slice ok (es.length) ck,.slice o7 (s.dn.aK.length+1) c7⟩,es,jA.o.put (i:=7) rfl ⟨124,4,.slice o7 (s.dn.aK.length+1) c7,s.dn.aK.length+1,gV s.dn.aK++[.bool true,iv x,iv y,iv z]⟩ jc.o.1 (fun m hm=>by rw[HM.o] at hm;exact dJ.1 hm) jc.o.2.1 jc.o.2.2.1 (aJ jc.o.2.2.2 _) (by simp[iR,fC,gV]) (jA.o.es)⟩⟩
end Go.Proofs.YthbpmepjmebolaaGreatDoor.Bk
end
section
namespace Go.Proofs.YthbpmepjmebolaaGreatDoor.Bk
open jv
def xk (n:Nat):Nat->aF
 |0=>[]
 |m+1=>xk (n/10) m++[Dz (n%10)]
theorem Px (m:Nat): ∀n,(xk n m).length=m:=by
 induction m with
 |zero=>intro n;rfl
 |succ m ih=>intro n;simp[xk,ih]
def jP:Nat->aF->Nat
 |_,[]=>0
 |k,c::l=>k*c.toNat+jP (k+1) l
def ui (i:Nat) (line:aF):Nat:=(29*(i+1)+jP 2 line)%9949
theorem XM (i:Nat) (line:aF):ui i line<10^4:=by
 have:=Nat.mod_lt (29*(i+1)+jP 2 line) (show 9949>0 by omega)
 unfold ui
 omega
def nM (i:Nat) (line:aF):aF:=xk line.length 2++(58::(line++(58::(xk (ui i line) 4++[10]))))
theorem Eg (i:Nat) (line:aF):(nM i line).length=9+line.length:=by simp[nM,Px];omega
def jM (i:Nat):List aF->aF
 |[]=>[]
 |l::ls=>nM i l++jM (i+1) ls
def Ht (ls:List aF):aF:=jM 0 ls
theorem Jf: ∀(ls:List aF) (i:Nat) (l:aF),jM i (ls++[l])=jM i ls++nM (i+ls.length) l:=by
 intro ls
 induction ls with
 |nil=>intro i l;simp[jM]
 |cons x ls ih=>intro i l;simp only[List.cons_append,jM,ih,nV,List.length_cons];rw[show i+1+ls.length=i+(ls.length+1) from by omega]
def NQ:List aF->Nat
 |[]=>0
 |l::ls=>9+l.length+NQ ls
theorem MJ: ∀(ls:List aF) (i:Nat),(jM i ls).length=NQ ls:=by
 intro ls
 induction ls with
 |nil=>intro i;rfl
 |cons l ls ih=>intro i;simp[jM,NQ,Eg,ih]
end Go.Proofs.YthbpmepjmebolaaGreatDoor.Bk
end
section
namespace Go.Proofs.YthbpmepjmebolaaGreatDoor
open Go.RowKit Go.RG Go.SL Go.Shelf jv Go.TB
theorem Vt {l:aQ} (hp: ∃d∈gq l,jE l [] d=true) (p:Int->dX->dX):(Ce p l (gq l)).length=l.field.aO.toNat:=by
 rcases KG p l (gq l) (gq l).length (ak _) with h|h
 ·obtain⟨d,hd,hc⟩:=hp
  by_cases h0:0<l.field.aO.toNat
  ·rcases Iq p l (gq l) h0 (gq l).length (ak _) with⟨_,h2⟩|⟨h1,_⟩
   ·rw[List.take_length] at h2
    rw[h2 d hd] at hc;cases hc
   ·exact h1
  ·unfold Ce;rw[h];simp;omega
 ·exact h
end Go.Proofs.YthbpmepjmebolaaGreatDoor
end

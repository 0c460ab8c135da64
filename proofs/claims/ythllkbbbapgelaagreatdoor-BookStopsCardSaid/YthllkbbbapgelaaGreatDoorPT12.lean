/-
  Texts of this claim, packed by a program: YA YC YD YG YB YE YF DA DB DC DD DE DF YI OG.
-/
import Derived.WalkKit
import Derived.WalkLawsBesides
import Derived.WalkSpells
import Derived.Outline
import Derived.Handy
import Derived.KernelRfl
import Derived.Lib.Hide
import Derived.Lib.AtoiTie
import Derived.Lib.ItoaNum
import Derived.StringKeys
import Derived.Lib.SlicesS
import Derived.BigRegion
import Derived.Deep.Slices
import Derived.Carry
import Derived.Test.YthllkbbbapgelaaGreatDoorPT8
import Derived.Test.YthllkbbbapgelaaGreatDoorPT11
set_option maxHeartbeats 8000000
set_option maxRecDepth 100000
set_option linter.all false
section
namespace Go.Proofs.YthllkbbbapgelaaGreatDoor.Bk
open jl Go.Proofs.YthllkbbbapgelaaGreatDoor.zo
abbrev az:=List UInt8
def iJ:az->List az
 |[]=>[[]]
 |c::l=>if c=32 then[]::iJ l else(c::(iJ l).headD [])::(iJ l).tail
theorem yD: ∀l,iJ l≠[]:=by
 intro l
 cases l with
 |nil=>simp[iJ]
 |cons c l=>unfold iJ;split <;>simp
def jU (c:UInt8):Bool:=decide (48<=c.toNat)&&decide (c.toNat<=57)
def Ai (s:az):Int:=s.foldl (fun n c=>10*n+((c.toNat:Int)-48)) 0
def Ou (s:az):Bool:=decide (1<=s.length)&&decide (s.length<=4)&&(decide (s.headD 0≠48) ||decide (s.length=1))&&s.all jU
def pq (s:az):Option Int:=if Ou s=true then some (Ai s) else none
theorem TN: ∀(s:az) (n:Int),0<=n->s.all jU=true->n*10^s.length<=s.foldl (fun n c=>10*n+((c.toNat:Int)-48)) n/\s.foldl (fun n c=>10*n+((c.toNat:Int)-48)) n<(n+1)*10^s.length:=by
 intro s
 induction s with
 |nil=>intro n h _;simp;omega
 |cons c s ih=>
  intro n h hs
  rw[List.all_cons,eF] at hs
  have hd:=hs.1
  simp only[jU,eF,eQ] at hd
  have hp:0<(10:Int)^s.length:=Int.pow_pos (by omega)
  have:=ih (10*n+((c.toNat:Int)-48)) (by omega) hs.2
  rw[List.foldl_cons,List.length_cons,Int.pow_succ]
  have e1:n*(10^s.length*10)=(10*n)*10^s.length:=by rw[Int.mul_comm (10^s.length) 10, <-Int.mul_assoc,Int.mul_comm n 10]
  have e2:(n+1)*(10^s.length*10)=(10*(n+1))*10^s.length:=by rw[Int.mul_comm (10^s.length) 10, <-Int.mul_assoc,Int.mul_comm (n+1) 10]
  rw[e1,e2]
  have h1:(10*n)*10^s.length<=(10*n+((c.toNat:Int)-48))*10^s.length:=Int.mul_le_mul_of_nonneg_right (by omega) (by omega)
  have h2:(10*n+((c.toNat:Int)-48)+1)*10^s.length<=(10*(n+1))*10^s.length:=Int.mul_le_mul_of_nonneg_right (by omega) (by omega)
  omega
theorem KN {s:az} {n:Int} (h:pq s=some n):0<=n/\n<=9999:=by
 unfold pq at h
 split at h
 ·rename_i hf
  obtain rfl:=jy h
  simp only[Ou,eF,eQ] at hf
  have h1:=TN s 0 (by omega) hf.2
  have h2:(10:Int)^s.length<=10000:=by
   have h3:=hf.1.1.1
   have h4:=hf.1.1.2
   clear h1 hf
   generalize s.length=k at*
   rcases(show k=1∨k=2∨k=3∨k=4 by omega) with rfl|rfl|rfl|rfl <;>decide
  unfold Ai
  omega
 ·cases h
inductive lh where
 |row|left|tally|BM|mY|rate|box|note|void|start|bW|turn|pY|Cc|unread|heap|strong|ql|fill|BO|uV
 deriving DecidableEq
def LY:List lh:=[.row,.left,.tally,.BM,.mY,.rate,.box,.note,.void,.start,.bW,.turn,.pY,.Cc,.unread,.heap,.strong,.ql,.fill,.BO,.uV]
def lh.word:lh->az
 | .row=>[114,111,119]
 | .left=>[108,101,102,116]
 | .tally=>[116,97,108,108,121]
 | .BM=>[119,97,115,104]
 | .mY=>[117,110,116,97,108,108,121]
 | .rate=>[114,97,116,101]
 | .box=>[98,111,120]
 | .note=>[110,111,116,101]
 | .void=>[118,111,105,100]
 | .start=>[115,116,97,114,116]
 | .bW=>[119,101,116]
 | .turn=>[116,117,114,110]
 | .pY=>[117,110,116,117,114,110]
 | .Cc=>[105,114,111,110]
 | .unread=>[117,110,114,101,97,100]
 | .heap=>[104,101,97,112]
 | .strong=>[115,116,114,111,110,103]
 | .ql=>[99,97,115,107]
 | .fill=>[102,105,108,108]
 | .BO=>[116,114,121]
 | .uV=>[117,110,116,114,121]
def lh.many:lh->Nat
 | .row=>0
 | .mY| .rate| .void| .turn| .pY| .unread| .uV=>1
 | .left| .box| .start| .heap| .ql=>2
 | .BM| .note| .bW| .Cc| .strong| .fill| .BO=>3
 | .tally=>5
def GR (w:az):Option lh:=LY.find? fun c=>c.word==w
theorem Sz {w:az} {c:lh} (h:GR w=some c):w=c.word:=by
 have:=List.find?_some h
 exact(beq_iff_eq.1 this).symm
def nK:List az->Option (List Int)
 |[]=>some []
 |p::ps=>(pq p).bind fun n=>(nK ps).map (n:: ·)
theorem Vp: ∀{ps:List az} {n:List Int},nK ps=some n->n.length=ps.length:=by
 intro ps
 induction ps with
 |nil=>intro n h;obtain rfl:=jy h;rfl
 |cons p ps ih=>
  intro n h
  unfold nK at h
  cases hp:pq p with
  |none=>rw[hp] at h;cases h
  |some x=>
   cases hq:nK ps with
   |none=>rw[hp,hq] at h;cases h
   |some y=>
    rw[hp,hq] at h
    obtain rfl:=jy h
    simp[ih hq]
theorem YR: ∀{ps:List az} {n:List Int},nK ps=some n-> ∀x∈n,0<=x/\x<=9999:=by
 intro ps
 induction ps with
 |nil=>intro n h x hx;obtain rfl:=jy h;cases hx
 |cons p ps ih=>
  intro n h x hx
  unfold nK at h
  cases hp:pq p with
  |none=>rw[hp] at h;cases h
  |some y=>
   cases hq:nK ps with
   |none=>rw[hp,hq] at h;cases h
   |some z=>
    rw[hp,hq] at h
    obtain rfl:=jy h
    rcases ig.1 hx with rfl|hx
    ·exact KN hp
    ·exact ih hq x hx
def vC (line:az):Option (lh×List Int):=
 (GR ((iJ line).headD [])).bind fun c=>if(iJ line).tail.length=c.many then(nK (iJ line).tail).map fun n=>(c,n) else none
theorem FN {line:az} {c:lh} {n:List Int} (h:vC line=some (c,n)):(iJ line).headD []=c.word/\n.length=c.many/\(∀x∈n,0<=x/\x<=9999)/\nK (iJ line).tail=some n:=by
 unfold vC at h
 cases hc:GR ((iJ line).headD []) with
 |none=>rw[hc] at h;cases h
 |some d=>
  rw[hc,Option.bind_some] at h
  split at h
  ·rename_i hl
   cases hn:nK (iJ line).tail with
   |none=>rw[hn] at h;cases h
   |some m=>
    rw[hn] at h
    obtain⟨rfl,rfl⟩:=Prod.mk.inj (jy h)
    exact⟨Sz hc,by rw[Vp hn,hl],YR hn,rfl⟩
  ·cases h
structure jJ where
 led:aQ
 heap:bY
 dw:bK
def dY:jJ:=
 {led:={field:={rows:=3,aK:=2,left:=(0,3),ax:=[]},rate:=10,box:=(0,2000),notes:=[]}
  heap:={last:=4,size:=10,aY:=50,die:=10,uu:=60,start:=(30,30),bW:=List.replicate 5 (6,6),turns:=[],readings:=[]}
  dw:={heaps:=[(40,40)],aU:=[],aJ:=[]}}
def KC (a b most:Int):Bool:=decide (a<=b)&&decide (b<=most)
def KR (a b most wide:Int):Bool:=decide (a<=b)&&decide (b<=most)&&decide (b<=a+wide)
def jf (last:Int) (p:Int->Bool):List Int:=((List.range (last+1).toNat).map fun(k:Nat)=>(k:Int)).filter p
def mX (s:jJ) (l:List L6):jJ:={s with led:={s.led with field:={s.led.field with ax:=l}}}
def oD (s:jJ) (l:List (Int×dQ)):jJ:={s with led:={s.led with notes:=l}}
def iP (s:jJ) (h:bY):jJ:={s with heap:=h}
def fM (s:jJ) (c:bK):jJ:={s with dw:=c}
def jc (s:jJ):lh->List Int->Int×jJ
 | .row,_=>if 5<=s.led.field.rows then(3,s) else(0,{s with led:={s.led with field:={s.led.field with rows:=s.led.field.rows+1}}})
 | .left,n=>if KC (n.getD 0 0) (n.getD 1 0) s.led.field.rows=false then(2,s)
    else(0,{s with led:={s.led with field:={s.led.field with left:=(n.getD 0 0,n.getD 1 0)}}})
 | .tally,n=>if s.led.field.aK<=n.getD 0 0 then(7,s) else if s.led.field.rows<=n.getD 1 0∨s.led.field.rows<=n.getD 2 0 then(7,s)
    else if n.getD 2 0<n.getD 1 0 then(2,s) else if KC (n.getD 3 0) (n.getD 4 0) s.led.field.rows=false then(2,s)
    else if 5<=s.led.field.ax.length then(3,s)
    else(0,mX s (s.led.field.ax++[(n.getD 0 0,n.getD 1 0,n.getD 2 0,(n.getD 3 0,n.getD 4 0))]))
 | .BM,n=>if(s.led.field.ax.length:Int)<=n.getD 0 0 then(7,s) else if KC (n.getD 1 0) (n.getD 2 0) s.led.field.rows=false then(2,s)
    else(0,mX s (s.led.field.ax.set (n.getD 0 0).toNat
     (let t:=s.led.field.ax.getD (n.getD 0 0).toNat (0,0,0,(0,0));(t.1,t.2.1,t.2.2.1,(n.getD 1 0,n.getD 2 0)))))
 | .mY,n=>if(s.led.field.ax.length:Int)<=n.getD 0 0 then(7,s) else(0,mX s (s.led.field.ax.eraseIdx (n.getD 0 0).toNat))
 | .rate,n=>if n.getD 0 0=0∨50<n.getD 0 0 then(2,s) else(0,{s with led:={s.led with rate:=n.getD 0 0}})
 | .box,n=>if KC (n.getD 0 0) (n.getD 1 0) 2000=false then(2,s) else(0,{s with led:={s.led with box:=(n.getD 0 0,n.getD 1 0)}})
 | .note,n=>if s.led.field.aK<=n.getD 0 0 then(7,s) else if KC (n.getD 1 0) (n.getD 2 0) 2000=false then(2,s)
    else if 5<=s.led.notes.length then(3,s) else(0,oD s (s.led.notes++[(n.getD 0 0,(n.getD 1 0,n.getD 2 0))]))
 | .void,n=>if(s.led.notes.length:Int)<=n.getD 0 0 then(7,s) else(0,oD s (s.led.notes.eraseIdx (n.getD 0 0).toNat))
 | .start,n=>if KR (n.getD 0 0) (n.getD 1 0) 500 2=false then(2,s) else(0,iP s {s.heap with start:=(n.getD 0 0,n.getD 1 0)})
 | .bW,n=>if s.heap.last<n.getD 0 0 then(7,s) else if KR (n.getD 1 0) (n.getD 2 0) 20 2=false then(2,s)
    else(0,iP s {s.heap with bW:=s.heap.bW.set (n.getD 0 0).toNat (n.getD 1 0,n.getD 2 0)})
 | .turn,n=>if s.heap.last<n.getD 0 0 then(7,s) else if s.heap.turns.contains (n.getD 0 0) then(6,s)
    else(0,iP s {s.heap with turns:=jf s.heap.last fun i=>i==n.getD 0 0 ||s.heap.turns.contains i})
 | .pY,n=>if s.heap.turns.contains (n.getD 0 0)=false then(7,s)
    else(0,iP s {s.heap with turns:=jf s.heap.last fun i=>i !=n.getD 0 0&&s.heap.turns.contains i})
 | .Cc,n=>if s.heap.last<n.getD 0 0 then(7,s) else if 1000<n.getD 1 0∨50<n.getD 2 0 then(2,s)
    else if 5<=s.heap.readings.length then(3,s) else(0,iP s {s.heap with readings:=s.heap.readings++[(n.getD 0 0,n.getD 1 0,n.getD 2 0)]})
 | .unread,n=>if(s.heap.readings.length:Int)<=n.getD 0 0 then(7,s) else(0,iP s {s.heap with readings:=s.heap.readings.eraseIdx (n.getD 0 0).toNat})
 | .heap,n=>if KR (n.getD 0 0) (n.getD 1 0) 100 9=false then(2,s) else if 3<=s.dw.heaps.length then(3,s)
    else(0,fM s {s.dw with heaps:=s.dw.heaps++[(n.getD 0 0,n.getD 1 0)],aU:=s.dw.aU.map (· ++[0])})
 | .strong,n=>if(s.dw.heaps.length:Int)<=n.getD 0 0 then(7,s) else if KR (n.getD 1 0) (n.getD 2 0) 100 9=false then(2,s)
    else(0,fM s {s.dw with heaps:=s.dw.heaps.set (n.getD 0 0).toNat (n.getD 1 0,n.getD 2 0)})
 | .ql,n=>if(s.dw.heaps.length:Int)<=n.getD 0 0 then(7,s) else if n.getD 1 0=0∨30<n.getD 1 0 then(2,s)
    else if 3<=s.dw.aU.length then(3,s)
    else(0,fM s {s.dw with aU:=s.dw.aU++[(List.replicate s.dw.heaps.length 0).set (n.getD 0 0).toNat (n.getD 1 0)]})
 | .fill,n=>if(s.dw.aU.length:Int)<=n.getD 0 0 then(7,s) else if(s.dw.heaps.length:Int)<=n.getD 1 0 then(7,s) else if 30<n.getD 2 0 then(2,s)
    else if((s.dw.aU.getD (n.getD 0 0).toNat []).set (n.getD 1 0).toNat (n.getD 2 0)).any (fun x=>decide (0<x))=false then(8,s)
    else(0,fM s {s.dw with aU:=s.dw.aU.set (n.getD 0 0).toNat ((s.dw.aU.getD (n.getD 0 0).toNat []).set (n.getD 1 0).toNat (n.getD 2 0))})
 | .BO,n=>if(s.dw.aU.length:Int)<=n.getD 0 0 then(7,s) else if KR (n.getD 1 0) (n.getD 2 0) 100 100=false then(2,s)
    else if 5<=s.dw.aJ.length then(3,s) else(0,fM s {s.dw with aJ:=s.dw.aJ++[(true,n.getD 0 0,(n.getD 1 0,n.getD 2 0))]})
 | .uV,n=>if(s.dw.aJ.length:Int)<=n.getD 0 0 then(7,s) else(0,fM s {s.dw with aJ:=s.dw.aJ.eraseIdx (n.getD 0 0).toNat})
structure fP (s:jJ):Prop where
 rows:3<=s.led.field.rows/\s.led.field.rows<=5
 aK:s.led.field.aK=2
 left:0<=s.led.field.left.1/\s.led.field.left.1<=s.led.field.left.2/\s.led.field.left.2<=s.led.field.rows
 En:s.led.field.ax.length<=5
 xn: ∀t∈s.led.field.ax,(0<=t.1/\t.1<2)/\(0<=t.2.1/\t.2.1<=t.2.2.1/\t.2.2.1<s.led.field.rows)/\(0<=t.2.2.2.1/\t.2.2.2.1<=t.2.2.2.2/\t.2.2.2.2<=s.led.field.rows)
 rate:1<=s.led.rate/\s.led.rate<=50
 box:0<=s.led.box.1/\s.led.box.1<=s.led.box.2/\s.led.box.2<=2000
 notes:s.led.notes.length<=5
 note: ∀t∈s.led.notes,(0<=t.1/\t.1<2)/\(0<=t.2.1/\t.2.1<=t.2.2/\t.2.2<=2000)
 heap:s.heap.last=4/\s.heap.size=10/\s.heap.aY=50/\s.heap.die=10/\s.heap.uu=60
 start:0<=s.heap.start.1/\s.heap.start.1<=s.heap.start.2/\s.heap.start.2<=500/\s.heap.start.2<=s.heap.start.1+2
 UN:s.heap.bW.length=5
 bW: ∀r∈s.heap.bW,0<=r.1/\r.1<=r.2/\r.2<=20/\r.2<=r.1+2
 turns: ∃p,s.heap.turns=jf 4 p
 reads:s.heap.readings.length<=5
 read: ∀x∈s.heap.readings,(0<=x.1/\x.1<=4)/\(0<=x.2.1/\x.2.1<=1000)/\(0<=x.2.2/\x.2.2<=50)
 SQ:1<=s.dw.heaps.length/\s.dw.heaps.length<=3
 dw: ∀r∈s.dw.heaps,0<=r.1/\r.1<=r.2/\r.2<=100/\r.2<=r.1+9
 aU:s.dw.aU.length<=3
 ql: ∀l∈s.dw.aU,l.length=s.dw.heaps.length/\(∀x∈l,0<=x/\x<=30)/\0<mr l
 aJ:s.dw.aJ.length<=5
 trial: ∀t∈s.dw.aJ,t.1=true/\(0<=t.2.1/\t.2.1<s.dw.aU.length)/\(0<=t.2.2.1/\t.2.2.1<=t.2.2.2/\t.2.2.2<=100)
theorem G8:fP dY where
 rows:=by decide
 aK:=rfl
 left:=by decide
 En:=by decide
 xn:=fun _ h=>by cases h
 rate:=by decide
 box:=by decide
 notes:=by decide
 note:=fun _ h=>by cases h
 heap:=by decide
 start:=by decide
 UN:=rfl
 bW:=fun r h=>by obtain rfl:=List.eq_of_mem_replicate h;decide
 turns:=⟨fun _=>false,by decide⟩
 reads:=by decide
 read:=fun _ h=>by cases h
 SQ:=by decide
 dw:=fun r h=>by obtain rfl:=fC.1 h;decide
 aU:=by decide
 ql:=fun _ h=>by cases h
 aJ:=by decide
 trial:=fun _ h=>by cases h
theorem ES {n:List Int} (h: ∀x∈n,0<=x/\x<=9999) (i:Nat):0<=n.getD i 0/\n.getD i 0<=9999:=by
 by_cases hi:i<n.length
 ·rw[gW,dn hi,Option.getD_some];exact h _ (df hi)
 ·rw[gW,List.getElem?_eq_none (by omega)];exact⟨by decide,by decide⟩
theorem vH {α:Type} {l:List α} {i:Nat} {x y:α} (h:y∈l.set i x):y=x∨y∈l:=by
 rcases List.mem_or_eq_of_mem_set h with h|h
 ·exact .inr h
 ·exact .inl h
theorem aa6 {l:List Int} (h: ∀x∈l,0<=x/\x<=30):0<=mr l:=(EF (by omega) h).1
theorem MQ {l:List Int} (h: ∀x∈l,0<=x/\x<=30):0<mr l↔l.any (fun x=>decide (0<x))=true:=by
 induction l with
 |nil=>simp[mr]
 |cons x l ih=>
  have h1:=h x (by simp)
  have h2:=aa6 (l:=l) (fun y hy=>h y (by simp[hy]))
  have h3:=ih (fun y hy=>h y (by simp[hy]))
  rw[List.any_cons,Bool.or_eq_true, <-h3,eQ]
  simp only[mr]
  omega
theorem Qo (l:List Int):mr (l++[0])=mr l:=by rw[MR];simp[mr]
end Go.Proofs.YthllkbbbapgelaaGreatDoor.Bk
end
section
namespace Go.Proofs.YthllkbbbapgelaaGreatDoor.Bk
open jl Go.Lib
abbrev EU (k:Nat):UInt8:=UInt8.ofNat (48+k)
theorem mi {k:Nat} (h:k<10):(EU k).toNat=48+k:=by simp[EU];omega
theorem CU {k:Nat} (h:k<10):jU (EU k)=true:=by
 simp only[jU,mi h,eF,eQ];omega
theorem aej {k:Nat} (h:k<10) (h1:1<=k):EU k≠48:=fun e=>by
 have:=congrArg UInt8.toNat e
 rw[mi h] at this
 have h2:(48:UInt8).toNat=48:=by decide
 omega
theorem LC {c:UInt8} (h:jU c=true): ∃k,k<10/\c=EU k:=by
 simp only[jU,eF,eQ] at h
 refine⟨c.toNat-48,by omega,?_⟩
 apply UInt8.toNat_inj.1
 rw[mi (by omega)]
 omega
theorem mQ {u:Nat} (h:u<10):decDigits u=[EU u]:=by rw[decDigits,dif_pos h]
theorem yt {u:Nat} (h: ¬u<10):decDigits u=decDigits (u/10)++[EU (u%10)]:=by rw[decDigits,dif_neg h]
theorem ZZ: ∀u, ∀c∈decDigits u, ∃k,k<10/\c=EU k:=by
 intro u
 induction u using Nat.strongRecOn with
 |_ u ih=>
  intro c hc
  by_cases h:u<10
  ·rw[mQ h] at hc
   obtain rfl:=fC.1 hc
   exact⟨u,h,rfl⟩
  ·rw[yt h] at hc
   rcases iM.1 hc with hc|hc
   ·exact ih _ (by omega) c hc
   ·obtain rfl:=fC.1 hc
    exact⟨u%10,by omega,rfl⟩
theorem ZY (u:Nat):1<=(decDigits u).length:=by
 by_cases h:u<10
 ·rw[mQ h];exact ai _
 ·rw[yt h];simp
theorem I7 (s:az) (c:UInt8):Ai (s++[c])=10*Ai s+((c.toNat:Int)-48):=by unfold Ai;rw[List.foldl_append];rfl
theorem aaU (u:Nat):Ai (decDigits u)=u:=by
 induction u using Nat.strongRecOn with
 |_ u ih=>
  by_cases h:u<10
  ·rw[mQ h]
   show 10*(0:Int)+(((EU u).toNat:Int)-48)=u
   rw[mi h];omega
  ·rw[yt h,I7,ih _ (by omega),mi (by omega)]
   omega
theorem Sr: ∀(k u:Nat),u<10^(k+1)->(decDigits u).length<=k+1:=by
 intro k
 induction k with
 |zero=>intro u h;rw[mQ (by omega)];exact ai _
 |succ k ih=>
  intro u h
  by_cases hu:u<10
  ·rw[mQ hu];simp
  ·rw[yt hu,dh]
   have:=ih (u/10) (by rw[Nat.pow_succ] at h;omega)
   simp only[List.length_singleton]
   omega
theorem ahx (u:Nat):u<10^(decDigits u).length:=by
 induction u using Nat.strongRecOn with
 |_ u ih=>
  by_cases h:u<10
  ·rw[mQ h];simpa using h
  ·rw[yt h,dh,List.length_singleton,Nat.pow_succ]
   have:=ih (u/10) (by omega)
   omega
theorem abZ {u:Nat} (h1:1<=u):(decDigits u).headD 0≠48:=by
 induction u using Nat.strongRecOn with
 |_ u ih=>
  by_cases h:u<10
  ·rw[mQ h];exact aej h h1
  ·rw[yt h]
   have h2:=ih (u/10) (by omega) (by omega)
   have h3:=ZY (u/10)
   cases hd:decDigits (u/10) with
   |nil=>rw[hd] at h3;simp at h3
   |cons a l=>rw[hd] at h2;exact h2
theorem abh {u:Nat} (h:u<10000):pq (decDigits u)=some (u:Int):=by
 have h1:=ZY u
 have h2:=Sr 3 u (by simpa using h)
 have h3:(decDigits u).all jU=true:=by
  rw[jV]
  intro c hc
  obtain⟨k,hk,rfl⟩:=ZZ u c hc
  exact CU hk
 unfold pq
 rw[aF,aaU]
 unfold Ou
 rw[h3,decide_eq_true h1,decide_eq_true h2]
 by_cases hu:u=0
 ·subst hu;rw[mQ (by omega)];decide
 ·rw[decide_eq_true (abZ (u:=u) (by omega))];rfl
theorem abY: ∀(k:Nat) (s:az),s.length=k+1->s.all jU=true->(s.headD 0≠48∨s.length=1)->decDigits (Ai s).toNat=s:=by
 intro k
 induction k with
 |zero=>
  intro s hl hd _
  obtain⟨c,rfl⟩:=List.length_eq_one_iff.1 hl
  have hc:jU c=true:=by simpa using hd
  obtain⟨j,hj,rfl⟩:=LC hc
  show decDigits (10*(0:Int)+(((EU j).toNat:Int)-48)).toNat=_
  rw[mi hj,show(10*(0:Int)+(((48+j:Nat):Int)-48)).toNat=j from by omega,mQ hj]
 |succ k ih=>
  intro s hl hd hh
  obtain⟨t,c,rfl⟩: ∃t c,s=t++[c]:=by
   rcases List.eq_nil_or_concat s with rfl|⟨t,c,rfl⟩
   ·simp at hl
   ·exact⟨t,c,by simp⟩
  have hl':t.length=k+1:=by simpa using hl
  rw[List.all_append,eF] at hd
  have hc:jU c=true:=by simpa using hd.2
  obtain⟨j,hj,rfl⟩:=LC hc
  have hne:t.headD 0≠48:=by
   rcases hh with hh|hh
   ·cases t with
    |nil=>simp at hl'
    |cons a t=>exact hh
   ·rw[hl] at hh;omega
  have h1:=ih t hl' hd.1 (.inl hne)
  have hb:=TN t 0 (by omega) hd.1
  have hpos:1<=Ai t:=by
   have hnn:0<=Ai t:=by unfold Ai;omega
   by_cases hz:Ai t=0
   ·rw[hz] at h1
    have h48:decDigits (0:Int).toNat=[48]:=by rw[show(0:Int).toNat=0 from rfl,mQ (by omega)];rfl
    rw[h48] at h1
    rw[<-h1] at hne
    exact absurd rfl hne
   ·omega
  rw[I7,mi hj,yt (by omega)]
  rw[show(10*Ai t+(((48+j:Nat):Int)-48)).toNat/10=(Ai t).toNat from by omega,show(10*Ai t+(((48+j:Nat):Int)-48)).toNat%10=j from by omega,h1]
theorem EI {s:az} {v:Int} (h:pq s=some v):s=decDigits v.toNat/\s.length<=4:=by
 unfold pq at h
 split at h
 ·rename_i hf
  obtain rfl:=jy h
  simp only[Ou,eF,Bool.or_eq_true,eQ] at hf
  obtain⟨⟨⟨h1,h2⟩,h3⟩,h4⟩:=hf
  exact⟨(abY (s.length-1) s (by omega) h4 h3).symm,h2⟩
 ·cases h
theorem OE {c:UInt8} (h:jU c=true):digitVal c=some (c.toNat-48):=by
 simp only[jU,eF,eQ] at h
 unfold digitVal
 rw[aF h]
theorem Sm: ∀(s:az) (acc:Nat),s.all jU=true-> ∃m:Nat,decFrom acc s=some m/\(m:Int)=s.foldl (fun n c=>10*n+((c.toNat:Int)-48)) (acc:Int):=by
 intro s
 induction s with
 |nil=>intro acc _;exact⟨acc,rfl,rfl⟩
 |cons c s ih=>
  intro acc h
  rw[List.all_cons,eF] at h
  obtain⟨m,h1,h2⟩:=ih (acc*10+(c.toNat-48)) h.2
  have hd:=h.1
  simp only[jU,eF,eQ] at hd
  refine⟨m,by rw[decFrom,OE h.1];exact h1,?_⟩
  rw[h2,List.foldl_cons]
  congr 1
  omega
theorem Ee {s:az} {v:Int} (h:pq s=some v):atoi s=some v:=by
 unfold pq at h
 split at h
 ·rename_i hf
  obtain rfl:=jy h
  simp only[Ou,eF,Bool.or_eq_true,eQ] at hf
  obtain⟨⟨⟨h1,h2⟩,h3⟩,h4⟩:=hf
  cases s with
  |nil=>simp at h1
  |cons c s=>
   have hd:=h4
   rw[List.all_cons,eF] at hd
   have hc:=hd.1
   simp only[jU,eF,eQ] at hc
   have n45:(c==45)=false:=by
    rw[Hf];rintro rfl;revert hc;decide
   have n43:(c==43)=false:=by
    rw[Hf];rintro rfl;revert hc;decide
   obtain⟨m,e1,e2⟩:=Sm (c::s) 0 h4
   have e3:atoi (c::s)=(decNat (c::s)).map fun(m:Nat)=>(m:Int):=by
    simp only[atoi,n45,n43,Bool.false_eq_true,if_false]
   rw[e3]
   unfold decNat
   rw[aj (by simp),e1]
   exact congrArg some e2
 ·cases h
theorem NH {s:az} {v:Int} (h0:0<=v) (hl:s.length<=4) (he:itoa v=s):pq s=some v:=by
 unfold itoa at he
 rw[aj (by omega)] at he
 have h1:=ahx v.toNat
 rw[he] at h1
 have h2:v.toNat<10000:=fJ h1 (by
  have:=Nat.pow_le_pow_right (show 0<10 by omega) hl
  simpa using this)
 have:=abh h2
 rw[he] at this
 rw[this]
 congr 1
 omega
theorem Y5 {s:az} {v:Int} (h:pq s=some v):itoa v=s:=by
 unfold itoa
 have:=(KN h).1
 rw[aj (by omega)]
 exact(EI h).1.symm
end Go.Proofs.YthllkbbbapgelaaGreatDoor.Bk
end
section
namespace Go.Proofs.YthllkbbbapgelaaGreatDoor.Bk
open jl
def lH (n:Nat):Nat->az
 |0=>[]
 |m+1=>lH (n/10) m++[EU (n%10)]
theorem jT (m:Nat): ∀n,(lH n m).length=m:=by
 induction m with
 |zero=>intro n;rfl
 |succ m ih=>intro n;simp[lH,ih]
theorem abX {a b:Nat} (ha:a<10) (hb:b<10) (h:EU a=EU b):a=b:=by
 have:=congrArg UInt8.toNat h
 rw[mi ha,mi hb] at this
 omega
theorem ZW: ∀(m a b:Nat),a<10^m->b<10^m->lH a m=lH b m->a=b:=by
 intro m
 induction m with
 |zero=>intro a b ha hb _;simp at ha hb;omega
 |succ m ih=>
  intro a b ha hb h
  rw[Nat.pow_succ] at ha hb
  obtain⟨h1,h2⟩:=List.append_inj h (by rw[jT,jT])
  have h3:=ih _ _ (by omega) (by omega) h1
  have h4:=abX (by omega) (by omega) (List.cons.inj h2).1
  omega
def jI:Nat->az->Nat
 |_,[]=>0
 |k,c::l=>k*c.toNat+jI (k+1) l
def jZ (i:Nat) (line:az):Nat:=(29*(i+1)+jI 2 line)%9949
theorem WQ (i:Nat) (line:az):jZ i line<10^4:=by
 have:=Nat.mod_lt (29*(i+1)+jI 2 line) (show 9949>0 by omega)
 unfold jZ
 omega
def bZ (i:Nat) (line:az):az:=lH line.length 2++(58::(line++(58::(lH (jZ i line) 4++[10]))))
theorem iy (i:Nat) (line:az):(bZ i line).length=9+line.length:=by simp[bZ,jT];omega
def fG (i:Nat):List az->az
 |[]=>[]
 |l::ls=>bZ i l++fG (i+1) ls
def wV (ls:List az):az:=fG 0 ls
theorem IC: ∀(ls:List az) (i:Nat) (l:az),fG i (ls++[l])=fG i ls++bZ (i+ls.length) l:=by
 intro ls
 induction ls with
 |nil=>intro i l;simp[fG]
 |cons x ls ih=>intro i l;simp only[List.cons_append,fG,ih,kZ,List.length_cons];rw[show i+1+ls.length=i+(ls.length+1) from by omega]
def isRec (i:Nat) (b:az) (n:Nat):Bool:=decide (9+n<=b.length)&&(bZ i ((b.drop 3).take n)==b.take (9+n))
def pX (i:Nat) (b:az):Option az:=((List.range 61).find? (isRec i b)).map fun n=>(b.drop 3).take n
def dL:Nat->Nat->az->List az
 |0,_,_=>[]
 |f+1,i,b=>match pX i b with
  |none=>[]
  |some l=>l::dL f (i+1) (b.drop (9+l.length))
def eY:List az->Nat
 |[]=>0
 |l::ls=>9+l.length+eY ls
theorem yL {i n:Nat} {b:az}:isRec i b n=true↔ ∃l rest,l.length=n/\b=bZ i l++rest:=by
 unfold isRec
 rw[eF,eQ,beq_iff_eq]
 constructor
 ·rintro⟨h1,h2⟩
  refine⟨(b.drop 3).take n,b.drop (9+n),by simp;omega,?_⟩
  rw[h2,List.take_append_drop]
 ·rintro⟨l,rest,rfl,rfl⟩
  have hd:((bZ i l++rest).drop 3).take l.length=l:=by
   have:bZ i l++rest=(lH l.length 2++[58])++(l++(58::(lH (jZ i l) 4++[10])++rest)):=by simp[bZ]
   rw[this,List.drop_append_of_le_length (by simp[jT]),List.drop_of_length_le (by simp[jT]),List.nil_append,nD (ai _),List.take_length]
  refine⟨by rw[dh,iy];omega,?_⟩
  rw[hd,nD (by rw[iy];omega),jW (by rw[iy];omega)]
theorem TT {i j:Nat} {l m r s:az} (hl:l.length<=60) (hm:m.length<=60) (h:bZ i l++r=bZ j m++s):l.length=m.length:=by
 unfold bZ at h
 rw[kZ,kZ] at h
 exact ZW 2 _ _ (by omega) (by omega) (List.append_inj h (by rw[jT,jT])).1
theorem I4 {i:Nat} {l:az} (hl:l.length<=60) (rest:az):pX i (bZ i l++rest)=some l:=by
 unfold pX
 have h1:(List.range 61).find? (isRec i (bZ i l++rest))=some l.length:=by
  rw[List.find?_range_eq_some]
  refine⟨yL.2 ⟨l,rest,rfl,rfl⟩,kX.2 (by omega),fun n hn=>?_⟩
  rw[Bool.not_eq_true', <-Bool.not_eq_true]
  intro hc
  obtain⟨m,s,hm,he⟩:=yL.1 hc
  have:=TT hl (by omega) he
  omega
 rw[h1]
 have:=(yL (i:=i) (n:=l.length)).2 ⟨l,rest,rfl,rfl⟩
 unfold isRec at this
 rw[eF,beq_iff_eq] at this
 rw[Option.map_some]
 congr 1
 have h2:bZ i l++rest=(lH l.length 2++[58])++(l++(58::(lH (jZ i l) 4++[10])++rest)):=by simp[bZ]
 rw[h2,List.drop_append_of_le_length (by simp[jT]),List.drop_of_length_le (by simp[jT]),List.nil_append,nD (ai _),List.take_length]
theorem zD {i:Nat} {b l:az} (h:pX i b=some l):l.length<=60/\ ∃rest,b=bZ i l++rest:=by
 unfold pX at h
 cases hf:(List.range 61).find? (isRec i b) with
 |none=>rw[hf] at h;cases h
 |some n=>
  rw[hf] at h
  obtain rfl:=jy h
  obtain⟨h1,h2,_⟩:=List.find?_range_eq_some.1 hf
  obtain⟨l,rest,rfl,rfl⟩:=yL.1 h1
  have h3:bZ i l++rest=(lH l.length 2++[58])++(l++(58::(lH (jZ i l) 4++[10])++rest)):=by simp[bZ]
  have h4:((bZ i l++rest).drop 3).take l.length=l:=by
   rw[h3,List.drop_append_of_le_length (by simp[jT]),List.drop_of_length_le (by simp[jT]),List.nil_append,nD (ai _),List.take_length]
  show((bZ i l++rest).drop 3 |>.take l.length).length<=60/\ ∃adn,bZ i l++rest=bZ i ((bZ i l++rest).drop 3 |>.take l.length)++adn
  rw[h4]
  exact⟨by have:=kX.1 h2;omega,rest,rfl⟩
theorem E8 {i:Nat} {b:az} (h: ∀l rest,l.length<=60->b≠bZ i l++rest):pX i b=none:=by
 cases hw:pX i b with
 |none=>rfl
 |some l=>obtain⟨h1,r,h2⟩:=zD hw;exact absurd h2 (h l r h1)
theorem Ar: ∀(f i:Nat) (b:az),(dL f i b).length<=f:=by
 intro f
 induction f with
 |zero=>intro i b;exact ai _
 |succ f ih=>
  intro i b
  unfold dL
  split
  ·simp
  ·rename_i l _
   have:=ih (i+1) (b.drop (9+l.length))
   simp only[List.length_cons];omega
theorem read_short: ∀(f i:Nat) (b:az), ∀l∈dL f i b,l.length<=60:=by
 intro f
 induction f with
 |zero=>intro i b l hl;cases hl
 |succ f ih=>
  intro i b l hl
  unfold dL at hl
  split at hl
  ·cases hl
  ·rename_i x hx
   rcases ig.1 hl with rfl|hl
   ·exact(zD hx).1
   ·exact ih _ _ l hl
theorem U3: ∀(f i:Nat) (b:az),eY (dL f i b)<=b.length:=by
 intro f
 induction f with
 |zero=>intro i b;exact bM _
 |succ f ih=>
  intro i b
  unfold dL
  split
  ·simp[eY]
  ·rename_i l hl
   obtain⟨_,r,rfl⟩:=zD hl
   have h1:(bZ i l++r).drop (9+l.length)=r:=by rw[List.drop_append_of_le_length (by rw[iy];omega),List.drop_of_length_le (by rw[iy];omega),List.nil_append]
   rw[h1]
   have:=ih (i+1) r
   simp only[eY,dh,iy]
   omega
theorem wH: ∀(ls:List az) (i:Nat),(fG i ls).length=eY ls:=by
 intro ls
 induction ls with
 |nil=>intro i;rfl
 |cons l ls ih=>intro i;simp[fG,eY,iy,ih]
theorem uZ (a b:List az):eY (a++b)=eY a+eY b:=by
 induction a with
 |nil=>simp[eY]
 |cons x a ih=>simp only[List.cons_append,eY,ih];omega
theorem Np: ∀(ls:List az) (f i:Nat) (n:Nat),(∀l∈ls,l.length<=60)->ls.length<=f->
 ∃m,m<=ls.length/\dL f i ((fG i ls).take n)=ls.take m/\eY (ls.take m)<=n/\(m=ls.length∨n<eY (ls.take (m+1))):=by
 intro ls
 induction ls with
 |nil=>
  intro f i n _ _
  refine⟨0,ai _,?_,bM _,.inl rfl⟩
  cases f with
  |zero=>rfl
  |succ f=>
   have:pX i ((fG i []).take n)=none:=E8 fun l rest _ h=>by
    have:=congrArg List.length h
    simp[fG,iy] at this
    omega
   unfold dL
   rw[this]
   rfl
 |cons l ls ih=>
  intro f i n hl hf
  obtain⟨f,rfl⟩: ∃g,f=g+1:=⟨f-1,by simp at hf;omega⟩
  have hl0:=hl l (by simp)
  by_cases hn:9+l.length<=n
  ·obtain⟨m,h1,h2,h3,h4⟩:=ih f (i+1) (n-(9+l.length)) (fun x hx=>hl x (by simp[hx])) (by simpa using hf)
   have e:(fG i (l::ls)).take n=bZ i l++(fG (i+1) ls).take (n-(9+l.length)):=by
    rw[fG,List.take_append,iy,jW (by rw[iy];omega)]
   refine⟨m+1,by simpa using h1,?_,?_,?_⟩
   ·rw[e]
    unfold dL
    rw[I4 hl0]
    simp only[List.take_succ_cons]
    rw[List.drop_append_of_le_length (by rw[iy];omega),List.drop_of_length_le (by rw[iy];omega),List.nil_append,h2]
   ·simp only[List.take_succ_cons,eY];omega
   ·rcases h4 with h4|h4
    ·exact .inl (by simp[h4])
    ·exact .inr (by simp only[List.take_succ_cons,eY] at h4⊢;omega)
  ·refine⟨0,bM _,?_,bM _,.inr (by simp only[Nat.zero_add,List.take_succ_cons,List.take_zero,eY];omega)⟩
   have:pX i ((fG i (l::ls)).take n)=none:=E8 fun x rest hx h=>by
    have h5:fG i (l::ls)=bZ i x++(rest++(fG i (l::ls)).drop n):=by
     rw[<-List.append_assoc, <-h,List.take_append_drop]
    have h6:=TT hl0 hx (show bZ i l++fG (i+1) ls=bZ i x++_ from h5)
    have h7:=congrArg List.length h
    rw[dh,iy,gJ] at h7
    omega
   unfold dL
   rw[this]
   rfl
theorem Vb {ls:List az} (hl: ∀l∈ls,l.length<=60) (f:Nat) (hf:ls.length<=f) (i:Nat):dL f i (fG i ls)=ls:=by
 obtain⟨m,h1,h2,h3,h4⟩:=Np ls f i (fG i ls).length hl hf
 rw[List.take_length] at h2
 have hm:m=ls.length:=by
  rcases h4 with h4|h4
  ·exact h4
  ·rw[wH] at h4
   have:eY ls=eY (ls.take (m+1))+eY (ls.drop (m+1)):=by rw[<-uZ,List.take_append_drop]
   omega
 rw[h2,hm,List.take_length]
def qC (b:az):Option Nat:=
 if jU (b.getD 0 0)&&jU (b.getD 1 0) then some (10*((b.getD 0 0).toNat-48)+((b.getD 1 0).toNat-48)) else none
def Fe (i n:Nat) (b:az):Bool:=
 (b.getD 2 0==58&&b.getD (3+n) 0==58)&&(b.getD (8+n) 0==10&&((b.drop (4+n)).take 4==lH (jZ i ((b.drop 3).take n)) 4))
def oQ (i:Nat) (b:az):Option az:=
 if b.length<9 then none else match qC b with
  |none=>none
  |some n=>if 60<n∨b.length<9+n then none else if Fe i n b then some ((b.drop 3).take n) else none
theorem OD {n:Nat} (h:n<100):lH n 2=[EU (n/10),EU (n%10)]:=by
 have:n/10%10=n/10:=by omega
 simp[lH,this]
theorem QY {i:Nat} {l:az} (hl:l.length<=60) (rest:az):qC (bZ i l++rest)=some l.length:=by
 unfold qC bZ
 rw[OD (by omega)]
 simp only[List.cons_append,List.nil_append,kZ,dA]
 rw[CU (by omega),CU (by omega),mi (by omega),mi (by omega)]
 simp only[Bool.and_self,if_true]
 congr 1
 omega
theorem Yp (i:Nat) (l rest:az):bZ i l++rest=(lH l.length 2++[58])++(l++(58::(lH (jZ i l) 4++(10::rest)))):=by simp[bZ]
theorem Yb {i:Nat} {l:az} (rest:az):((bZ i l++rest).drop 3).take l.length=l/\Fe i l.length (bZ i l++rest)=true:=by
 have h3:(lH l.length 2++[58]).length=3:=by simp[jT]
 have hd: ∀k,(bZ i l++rest).drop (3+k)=(l++(58::(lH (jZ i l) 4++(10::rest)))).drop k:=fun k=>by
  rw[Yp,List.drop_append,List.drop_of_length_le (by omega),List.nil_append,h3]
  congr 1
  omega
 have hd0:=hd 0
 rw[Nat.add_zero,List.drop_zero] at hd0
 have e1:((bZ i l++rest).drop 3).take l.length=l:=by rw[hd0,nD (ai _),List.take_length]
 have hda: ∀k,(bZ i l++rest).drop (3+l.length+k)=(58::(lH (jZ i l) 4++(10::rest))).drop k:=fun k=>by
  rw[show 3+l.length+k=3+(l.length+k) from by omega,hd,List.drop_append,List.drop_of_length_le (by omega),List.nil_append]
  congr 1
  omega
 have g: ∀k,(bZ i l++rest).getD (3+l.length+k) 0=(58::(lH (jZ i l) 4++(10::rest))).getD k 0:=fun k=>by
  have:=congrArg (fun x:az=>x.getD 0 0) (hda k)
  simpa [gW,List.getElem?_drop] using this
 have g0:=g 0
 have g5:=g 5
 have d1:=hda 1
 have l4:(lH (jZ i l) 4).length=4:=jT 4 _
 refine⟨e1,?_⟩
 unfold Fe
 rw[e1]
 rw[show 8+l.length=3+l.length+5 from by omega,show 4+l.length=3+l.length+1 from by omega,g5,d1]
 rw[Nat.add_zero] at g0
 rw[g0]
 have g2:(bZ i l++rest).getD 2 0=58:=by
  unfold bZ
  generalize hq:lH l.length 2=q
  have hq2:q.length=2:=by rw[<-hq];exact jT 2 _
  obtain⟨a,b,rfl⟩: ∃a b,q=[a,b]:=by
   match q,hq2 with
   |[a,b],_=>exact⟨a,b,rfl⟩
  simp
 rw[g2]
 generalize hq:lH (jZ i l) 4=q at*
 obtain⟨a,b,c,d,rfl⟩: ∃a b c d,q=[a,b,c,d]:=by
  match q,l4 with
  |[a,b,c,d],_=>exact⟨a,b,c,d,rfl⟩
 simp
theorem P9 {i:Nat} {l:az} (hl:l.length<=60) (rest:az):oQ i (bZ i l++rest)=some l:=by
 have hlen:(bZ i l++rest).length=9+l.length+rest.length:=by rw[dh,iy]
 unfold oQ
 rw[aj (by omega),QY hl]
 obtain⟨h1,h2⟩:=Yb (i:=i) (l:=l) rest
 simp only
 rw[aj (by omega),h2,h1]
 rfl
theorem getD_eq {b:az} {k:Nat} (h:k<b.length):b.getD k 0=b[k]:=by rw[gW,dn h,Option.getD_some]
theorem MJ {i:Nat} {b l:az} (h:oQ i b=some l):l.length<=60/\ ∃rest,b=bZ i l++rest:=by
 unfold oQ at h
 split at h
 ·cases h
 rename_i h9
 split at h
 ·cases h
 rename_i n hn
 split at h
 ·cases h
 rename_i hb
 split at h
 ·rename_i ht
  obtain rfl:=jy h
  have hll:((b.drop 3).take n).length=n:=by simp;omega
  refine⟨by omega,b.drop (9+n),?_⟩
  unfold qC at hn
  split at hn
  ·rename_i hd
   rw[eF] at hd
   obtain⟨x,hx,ex⟩:=LC hd.1
   obtain⟨y,hy,ey⟩:=LC hd.2
   have hn':=jy hn
   rw[ex,ey,mi hx,mi hy] at hn'
   simp only[Fe,eF,beq_iff_eq] at ht
   obtain⟨⟨t1,t2⟩,t3,t4⟩:=ht
   unfold bZ
   rw[hll,OD (by omega),show n/10=x from by omega,show n%10=y from by omega, <-ex, <-ey, <-t4]
   have e0:b=b.take 3++((b.drop 3).take n++b.drop (3+n)):=by
    have h1:(b.drop 3).drop n=b.drop (3+n):=by rw[List.drop_drop]
    rw[<-h1,List.take_append_drop,List.take_append_drop]
   have e1:b.take 3=[b.getD 0 0,b.getD 1 0,58]:=by
    rw[<-t1]
    match b,h9 with
    |x::y::z::b,_=>rfl
    |[x,y],h=>simp at h
    |[x],h=>simp at h
    |[],h=>simp at h
   have e2:b.drop (3+n)=58::((b.drop (4+n)).take 4++(10::b.drop (9+n))):=by
    have q1:b.drop (3+n)=b.getD (3+n) 0::b.drop (4+n):=by
     rw[uO (show 3+n<b.length by omega),getD_eq (show 3+n<b.length by omega)]
     congr 2
     omega
    have q2:b.drop (8+n)=b.getD (8+n) 0::b.drop (9+n):=by
     rw[uO (show 8+n<b.length by omega),getD_eq (show 8+n<b.length by omega)]
     congr 2
     omega
    have q3:(b.drop (4+n)).drop 4=b.drop (8+n):=by rw[List.drop_drop];congr 1;omega
    rw[q1,t2, <-t3, <-q2, <-q3,List.take_append_drop]
   rw[kZ]
   have:b=b.take 3++((b.drop 3).take n++(58::((b.drop (4+n)).take 4++(10::b.drop (9+n))))):=by rw[<-e2];exact e0
   rw[e1] at this
   simpa using this
  ·cases hn
 ·cases h
theorem I5 (i:Nat) (b:az):oQ i b=pX i b:=by
 cases h:oQ i b with
 |some l=>
  obtain⟨h1,rest,rfl⟩:=MJ h
  rw[I4 h1]
 |none=>
  refine(E8 fun l rest hl he=>?_).symm
  rw[he,P9 hl] at h
  cases h
end Go.Proofs.YthllkbbbapgelaaGreatDoor.Bk
end
section
namespace Go.Proofs.YthllkbbbapgelaaGreatDoor.Bk
open jl Go.Proofs.YthllkbbbapgelaaGreatDoor.zo
theorem xH {a b m:Int}:KC a b m=true↔a<=b/\b<=m:=by simp[KC]
theorem xP {a b m w:Int}:KR a b m w=true↔a<=b/\b<=m/\b<=a+w:=by simp[KR,and_assoc]
theorem mem_erase {α:Type} {l:List α} {i:Nat} {x:α} (h:x∈l.eraseIdx i):x∈l:=List.mem_of_mem_eraseIdx h
theorem yO {α:Type} (l:List α) (i:Nat):(l.eraseIdx i).length<=l.length:=List.length_eraseIdx_le l i
theorem aao {s:jJ} (hG:fP s) (c:lh) {n:List Int} (hn: ∀x∈n,0<=x/\x<=9999) (h0:(jc s c n).1=0):fP (jc s c n).2:=by
 have n0:=ES hn 0
 have n1:=ES hn 1
 have n2:=ES hn 2
 have n3:=ES hn 3
 cases c <;>simp only[jc] at h0⊢
 case row=>
  split at h0 <;>first|omega|skip
  rename_i h1
  rw[aj h1]
  have:=hG.rows;have:=hG.left
  exact {hG with rows:=by simp only;omega,left:=by simp only;omega,xn:=fun t ht=>by have:=hG.xn t ht;simp only at*;omega}
 case left=>
  split at h0 <;>first|omega|skip
  rename_i h1
  rw[aj h1]
  rw[Bool.not_eq_false,xH] at h1
  exact {hG with left:=by simp only;omega}
 case tally=>
  repeat' (split at h0;· omega)
  rename_i h1 h2 h3 h4 h5
  rw[aj h1,aj h2,aj h3,aj h4,aj h5]
  rw[Bool.not_eq_false,xH] at h4
  have hw:=hG.aK
  refine {hG with En:=by simp[mX];omega,xn:=fun t ht=>?_}
  rcases iM.1 ht with ht|ht
  ·exact hG.xn t ht
  ·obtain rfl:=fC.1 ht
   simp only[mX];omega
 case BM=>
  repeat' (split at h0;· omega)
  rename_i h1 h2
  rw[aj h1,aj h2]
  rw[Bool.not_eq_false,xH] at h2
  refine {hG with En:=by simp[mX];exact hG.En,xn:=fun t ht=>?_}
  rcases vH ht with rfl|ht
  ·have hk:(n.getD 0 0).toNat<s.led.field.ax.length:=by omega
   have:=hG.xn _ (df hk)
   rw[gW (l:=s.led.field.ax),dn hk,Option.getD_some]
   simp only[mX];omega
  ·exact hG.xn t ht
 case mY=>
  repeat' (split at h0;· omega)
  rename_i h1
  rw[aj h1]
  exact {hG with En:=iR (yO _ _) hG.En,xn:=fun t ht=>hG.xn t (mem_erase ht)}
 case rate=>
  repeat' (split at h0;· omega)
  rename_i h1
  rw[aj h1]
  exact {hG with rate:=by simp only;omega}
 case box=>
  repeat' (split at h0;· omega)
  rename_i h1
  rw[aj h1]
  rw[Bool.not_eq_false,xH] at h1
  exact {hG with box:=by simp only;omega}
 case note=>
  repeat' (split at h0;· omega)
  rename_i h1 h2 h3
  rw[aj h1,aj h2,aj h3]
  rw[Bool.not_eq_false,xH] at h2
  have hw:=hG.aK
  refine {hG with notes:=by simp[oD];omega,note:=fun t ht=>?_}
  rcases iM.1 ht with ht|ht
  ·exact hG.note t ht
  ·obtain rfl:=fC.1 ht
   simp only;omega
 case void=>
  repeat' (split at h0;· omega)
  rename_i h1
  rw[aj h1]
  exact {hG with notes:=iR (yO _ _) hG.notes,note:=fun t ht=>hG.note t (mem_erase ht)}
 case start=>
  repeat' (split at h0;· omega)
  rename_i h1
  rw[aj h1]
  rw[Bool.not_eq_false,xP] at h1
  exact {hG with start:=by simp only[iP];omega}
 case bW=>
  repeat' (split at h0;· omega)
  rename_i h1 h2
  rw[aj h1,aj h2]
  rw[Bool.not_eq_false,xP] at h2
  refine {hG with UN:=by simp[iP];exact hG.UN,bW:=fun r hr=>?_}
  rcases vH hr with rfl|hr
  ·simp only;omega
  ·exact hG.bW r hr
 case turn=>
  repeat' (split at h0;· omega)
  rename_i h1 h2
  rw[aj h1,aj h2]
  exact {hG with turns:=⟨_,by simp only[iP,hG.heap.1];rfl⟩}
 case pY=>
  repeat' (split at h0;· omega)
  rename_i h1
  rw[aj h1]
  exact {hG with turns:=⟨_,by simp only[iP,hG.heap.1];rfl⟩}
 case Cc=>
  repeat' (split at h0;· omega)
  rename_i h1 h2 h3
  rw[aj h1,aj h2,aj h3]
  have hl:=hG.heap.1
  refine {hG with reads:=by simp[iP];omega,read:=fun t ht=>?_}
  rcases iM.1 ht with ht|ht
  ·exact hG.read t ht
  ·obtain rfl:=fC.1 ht
   simp only;omega
 case unread=>
  repeat' (split at h0;· omega)
  rename_i h1
  rw[aj h1]
  exact {hG with reads:=iR (yO _ _) hG.reads,read:=fun t ht=>hG.read t (mem_erase ht)}
 case heap=>
  repeat' (split at h0;· omega)
  rename_i h1 h2
  rw[aj h1,aj h2]
  rw[Bool.not_eq_false,xP] at h1
  refine {hG with SQ:=by simp[fM];omega,dw:=fun r hr=>?_,aU:=by simp[fM];exact hG.aU,ql:=fun l hl=>?_,trial:=fun t ht=>?_}
  ·rcases iM.1 hr with hr|hr
   ·exact hG.dw r hr
   ·obtain rfl:=fC.1 hr
    simp only;omega
  ·obtain⟨m,hm,rfl⟩:=iZ.1 hl
   have:=hG.ql m hm
   refine⟨by simp[fM,this.1],fun x hx=>?_,by rw[Qo];exact this.2.2⟩
   rcases iM.1 hx with hx|hx
   ·exact this.2.1 x hx
   ·obtain rfl:=fC.1 hx;decide
  ·have:=hG.trial t ht
   simp only[fM,lX]
   exact this
 case strong=>
  repeat' (split at h0;· omega)
  rename_i h1 h2
  rw[aj h1,aj h2]
  rw[Bool.not_eq_false,xP] at h2
  refine {hG with SQ:=by simp[fM];exact hG.SQ,dw:=fun r hr=>?_,ql:=fun l hl=>by simp[fM];exact hG.ql l hl}
  rcases vH hr with rfl|hr
  ·simp only;omega
  ·exact hG.dw r hr
 case ql=>
  repeat' (split at h0;· omega)
  rename_i h1 h2 h3
  rw[aj h1,aj h2,aj h3]
  have hk:(n.getD 0 0).toNat<s.dw.heaps.length:=by omega
  have hx: ∀x∈(List.replicate s.dw.heaps.length (0:Int)).set (n.getD 0 0).toNat (n.getD 1 0),0<=x/\x<=30:=fun x hx=>by
   rcases vH hx with rfl|hx
   ·omega
   ·obtain rfl:=List.eq_of_mem_replicate hx;decide
  refine {hG with aU:=by simp[fM];omega,ql:=fun l hl=>?_,trial:=fun t ht=>?_}
  ·rcases iM.1 hl with hl|hl
   ·exact hG.ql l hl
   ·obtain rfl:=fC.1 hl
    refine⟨by simp[fM],hx,(MQ hx).2 ?_⟩
    rw[List.any_eq_true]
    exact⟨n.getD 1 0,List.mem_iff_getElem.2 ⟨(n.getD 0 0).toNat,by simpa using hk,List.getElem_set_self _⟩,decide_eq_true (by omega)⟩
  ·have:=hG.trial t ht
   simp only[fM,dh,List.length_singleton]
   exact⟨this.1,by omega,this.2.2⟩
 case fill=>
  repeat' (split at h0;· omega)
  rename_i h1 h2 h3 h4
  rw[aj h1,aj h2,aj h3,aj h4]
  have hk:(n.getD 0 0).toNat<s.dw.aU.length:=by omega
  have hb:=hG.ql _ (df hk)
  rw[gW (l:=s.dw.aU),dn hk,Option.getD_some] at h4⊢
  have hx: ∀x∈s.dw.aU[(n.getD 0 0).toNat].set (n.getD 1 0).toNat (n.getD 2 0),0<=x/\x<=30:=fun x hx=>by
   rcases vH hx with rfl|hx
   ·omega
   ·exact hb.2.1 x hx
  refine {hG with aU:=by simp[fM];exact hG.aU,ql:=fun l hl=>?_,trial:=fun t ht=>?_}
  ·rcases vH hl with rfl|hl
   ·exact⟨by rw[qp];exact hb.1,hx,(MQ hx).2 (by simpa using h4)⟩
   ·exact hG.ql l hl
  ·have:=hG.trial t ht
   simp only[fM,qp]
   exact this
 case BO=>
  repeat' (split at h0;· omega)
  rename_i h1 h2 h3
  rw[aj h1,aj h2,aj h3]
  rw[Bool.not_eq_false,xP] at h2
  refine {hG with aJ:=by simp[fM];omega,trial:=fun t ht=>?_}
  rcases iM.1 ht with ht|ht
  ·exact hG.trial t ht
  ·obtain rfl:=fC.1 ht
   exact⟨rfl,by simp only[fM];omega,by simp only;omega⟩
 case uV=>
  repeat' (split at h0;· omega)
  rename_i h1
  rw[aj h1]
  exact {hG with aJ:=iR (yO _ _) hG.aJ,trial:=fun t ht=>hG.trial t (mem_erase ht)}
end Go.Proofs.YthllkbbbapgelaaGreatDoor.Bk
end
section
namespace Go.Proofs.YthllkbbbapgelaaGreatDoor.Bk
open jl Go.Lib Go.Proofs.YthllkbbbapgelaaGreatDoor.zo
section
variable (st : jJ → Int)
def wW (s:jJ) (line:az):jJ×Int:=
 match vC line with
 |none=>(s,4)
 |some (c,n)=>if(jc s c n).1≠0 then(s,(jc s c n).1) else if st (jc s c n).2≠0 then(s,st (jc s c n).2) else((jc s c n).2,0)
def fK:jJ->List az->jJ×List Int
 |s,[]=>(s,[])
 |s,l::ls=>((fK (wW st s l).1 ls).1,(wW st s l).2::(fK (wW st s l).1 ls).2)
variable {st}
theorem Bi {s:jJ} {line:az} (h:vC line=none):wW st s line=(s,4):=by unfold wW;rw[h]
theorem Bh {s:jJ} {line:az} {c:lh} {n:List Int} (h:vC line=some (c,n)):
 wW st s line=if(jc s c n).1≠0 then(s,(jc s c n).1) else if st (jc s c n).2≠0 then(s,st (jc s c n).2) else((jc s c n).2,0):=by unfold wW;rw[h]
theorem acX {s:jJ} {line:az} (h:(wW st s line).2=0): ∃c n,vC line=some (c,n)/\(jc s c n).1=0/\st (jc s c n).2=0/\wW st s line=((jc s c n).2,0):=by
 cases hp:vC line with
 |none=>rw[Bi hp] at h;cases h
 |some x=>
  obtain⟨c,n⟩:=x
  rw[Bh hp] at h⊢
  split at h
  ·rename_i h1;exact absurd h h1
  ·rename_i h1
   split at h
   ·rename_i h2;exact absurd h h2
   ·rename_i h2
    rw[aj h1,aj h2]
    exact⟨c,n,rfl,by simpa using h1,by simpa using h2,rfl⟩
theorem acY {s:jJ} {line:az} (h:(wW st s line).2≠0):(wW st s line).1=s:=by
 cases hp:vC line with
 |none=>rw[Bi hp]
 |some x=>
  obtain⟨c,n⟩:=x
  rw[Bh hp] at h⊢
  split
  ·rfl
  ·rename_i h1
   split
   ·rfl
   ·rename_i h2
    rw[aj h1,aj h2] at h
    exact absurd rfl h
theorem abV {s:jJ} (hG:fP s) (line:az):fP (wW st s line).1:=by
 by_cases h:(wW st s line).2=0
 ·obtain⟨c,n,h1,h2,_,h4⟩:=acX h
  rw[h4]
  exact aao hG c (FN h1).2.2.1 h2
 ·rw[acY h];exact hG
theorem WI {s:jJ} (hs:st s=0) (line:az):st (wW st s line).1=0:=by
 by_cases h:(wW st s line).2=0
 ·obtain⟨c,n,_,_,h3,h4⟩:=acX h
  rw[h4];exact h3
 ·rw[acY h];exact hs
theorem Jm: ∀(ls:List az) {s:jJ},fP s->fP (fK st s ls).1:=by
 intro ls
 induction ls with
 |nil=>intro s h;exact h
 |cons l ls ih=>intro s h;exact ih (abV h l)
theorem Nv: ∀(ls:List az) {s:jJ},st s=0->st (fK st s ls).1=0:=by
 intro ls
 induction ls with
 |nil=>intro s h;exact h
 |cons l ls ih=>intro s h;exact ih (WI h l)
theorem Yv: ∀(ls:List az) (s:jJ),(fK st s ls).2.length=ls.length:=by
 intro ls
 induction ls with
 |nil=>intro s;rfl
 |cons l ls ih=>intro s;simp[fK,ih]
theorem Yw: ∀(a b:List az) (s:jJ),fK st s (a++b)=((fK st (fK st s a).1 b).1,(fK st s a).2++(fK st (fK st s a).1 b).2):=by
 intro a
 induction a with
 |nil=>intro b s;rfl
 |cons x a ih=>intro b s;simp only[List.cons_append,fK,ih]
theorem Vj (ls:List az) (l:az) (s:jJ):fK st s (ls++[l])=((wW st (fK st s ls).1 l).1,(fK st s ls).2++[(wW st (fK st s ls).1 l).2]):=by
 rw[Yw];rfl
end
end Go.Proofs.YthllkbbbapgelaaGreatDoor.Bk
end
section
namespace Go.Proofs.YthllkbbbapgelaaGreatDoor.Bk
open jl Go.Lib Go.Proofs.YthllkbbbapgelaaGreatDoor.zo
theorem yK {last:Int} {p:Int->Bool} {i:Int}:i∈jf last p↔(0<=i/\i<=last)/\p i=true:=by
 unfold jf
 rw[List.mem_filter,iZ]
 constructor
 ·rintro⟨⟨k,hk,rfl⟩,hp⟩
  have:=kX.1 hk
  exact⟨by omega,hp⟩
 ·rintro⟨h,hp⟩
  exact⟨⟨i.toNat,kX.2 (by omega),by omega⟩,hp⟩
variable {st : jJ → Int}
end Go.Proofs.YthllkbbbapgelaaGreatDoor.Bk
end
section
namespace Go.Proofs.YthllkbbbapgelaaGreatDoor.Bk
open Go.RowKit Go.RG Go.SL Go.Shelf jl Go.TB
def dI (l:List Bool):List Value:=l.map fun b=> .bool b
abbrev BK (w:World) (v:Value) (l:List Bool):Prop:=aN 1 w v l.length (dI l)
theorem BK.cell {w:World} {o:Option Addr} {n c:Nat} {l:List Bool} (h:aN 1 w (.slice o n c) n (dI l)) {k:Nat} (hk:k<l.length): ∃b off,o=some ⟨b,off,none⟩/\b<w.heap.size/\w.cell? ⟨b,off+k,none⟩=some (.bool l[k]):=by
 obtain⟨hl,o',c',hv,h1,h2,h3,h4⟩:=h
 cases hv
 have hlen:(dI l).length=l.length:=by simp[dI]
 cases o with
 |none=>have:=h3 rfl;omega
 |some a=>
  obtain⟨b,off,sp⟩:=a
  obtain⟨hs,hc⟩:=h4 _ rfl
  simp only at hs hc
  subst hs
  have h0:=hc k (.bool l[k]) (by simp[dI,hk])
  exact⟨b,off,rfl,dG w _ h0,h0⟩
theorem IL (l:List Bool) (v:Value) (w:World) (hv:BK w v l):Calls Tryz.prog 174 #[v,.bool true] w (PV (.bool (l.contains true)) w):=by
 have hidx:Calls Tryz.prog 255 #[v,.bool true] w (fun e w'=>w=w'/\((l.contains true=true/\ ∃k:Nat,k<l.length/\e= .returned (iv k))∨(l.contains true=false/\e= .returned (iv (-1))))):=by
  have hlen:=aN.len hv
  obtain⟨o,c,rfl⟩:=aN.open hv
  have HV:=ae hv
  clear hv
  go_enter Tryz.func255,Tryz.ntmps255
  go_wp2
  go_loop [4,5,8] (fun _ _ i=> ∃k:Nat,k<=l.length/\i= .int .i64 k/\(∀j (hj:j<l.length),j<k->l[j]=false)) (fun _ _ i=>l.length-(intOf i).toNat)
  case atStart=>exact⟨0,bM _,rfl,fun j _ hj=>by omega⟩
  case round=>
   obtain⟨k,hk,rfl,hno⟩:=hrel
   have HN:=ae hno
   clear hno
   by_cases hlt:k<l.length
   ·obtain⟨b,off,rfl,hb,hc0⟩:=BK.cell HV.o hlt
    cases he:l[k]
    ·rw[he] at hc0
     have HE:=ae he
     clear he
     go_wp2
     go_round
     case rel=>exact⟨k+1,by omega,by go_num,fun j hj hjk=>(by by_cases e:j=k;(subst e;exact HE.o);exact HN.o j hj (by omega))⟩
     case measure=>simp[intOf];omega
    ·rw[he] at hc0
     have HE:=ae he
     clear he
     go_wp2
     go_returns
     exact⟨rfl,.inl ⟨by first|exact HE.o▸df hlt|(rw[List.contains_iff_mem, <-HE.o];exact df _),k,hlt,by simp⟩⟩
   ·have hkl:k=l.length:=by omega
    go_wp2
    go_returns
    refine⟨rfl,.inr ⟨?_,by simp⟩⟩
    (try rw[<-Bool.not_eq_true,List.contains_iff_mem])
    intro hm
    obtain⟨j,hj,e⟩:=lY hm
    have:=HN.o j hj (by omega)
    rw[this] at e
    cases e
 have HI:=ae hidx
 clear hidx
 go_enter Tryz.func174,Tryz.ntmps174
 go_wp2_with fail
 refine HI.o.mono ?_
 rintro e w' ⟨rfl,⟨hc,k,hk,rfl⟩|⟨hc,rfl⟩⟩
 ·have HC:=ae hc
  clear hc
  go_wp2_with fail
  go_returns
  exact⟨by rw[HC.o];simp,aH _ _⟩
 ·have HC:=ae hc
  clear hc
  go_wp2_with fail
  go_returns
  exact⟨by rw[HC.o];simp,aH _ _⟩
abbrev kz (code:Int):List PanicEntry:=[{v:= .iface 214 (.agg #[iv code]),recovered:=false}]
def Tm (code:Int) (c:Bool) (w:World) (e:Ending) (w':World):Prop:=
 Below w.heap.size w w'/\((c=false/\e= .returned (.tuple #[]))∨(c=true/\e= .panicked (kz code)))
theorem Qy (code:Int) (l:List Bool) (v:Value) (w:World) (hv:BK w v l):Calls Tryz.prog 99 #[iv code,v] w (Tm code (l.contains true) w):=by
 have H:=ae (IL l v w hv)
 obtain⟨o,c,rfl⟩:=aN.open hv
 clear hv
 cases hq:l.contains true
 ·rw[hq] at H
  clear hq
  go_enter Tryz.func99,Tryz.ntmps99
  go_wp2_with fail
  refine H.o.mono ?_
  rintro e w' ⟨rfl,hb⟩
  go_wp2_with fail
  go_end0
  exact⟨hb,.inl ⟨rfl,by simp⟩⟩
 ·rw[hq] at H
  clear hq
  go_enter Tryz.func99,Tryz.ntmps99
  go_wp2_with fail
  refine H.o.mono ?_
  rintro e w' ⟨rfl,hb⟩
  go_wp2_with fail
  exact⟨rfl,hb,.inr ⟨rfl,rfl⟩⟩
def gQ:lh->Nat
 | .row=>153
 | .left=>154
 | .tally=>155
 | .BM=>156
 | .mY=>157
 | .rate=>158
 | .box=>159
 | .note=>160
 | .void=>161
 | .start=>162
 | .bW=>163
 | .turn=>164
 | .pY=>165
 | .Cc=>166
 | .unread=>167
 | .heap=>168
 | .strong=>169
 | .ql=>170
 | .fill=>171
 | .BO=>172
 | .uV=>173
abbrev WE:=Nat×Nat
abbrev wev (e:WE):Value:= .agg #[iv e.1,.func (.func e.2) #[] #[]]
abbrev UW (s:ByteArray):Value:= .string s
abbrev ik (c:lh):ByteArray:=⟨c.word.toArray⟩
def Qm:List (ByteArray×WE):=LY.map fun c=>(ik c,(c.many,gQ c))
theorem YZ (s:ByteArray): ∀l:List lh,TB.look s (l.map fun c=>(ik c,(c.many,gQ c)))=(l.find? fun c=>c.word==s.data.toList).map fun c=>(c.many,gQ c):=by
 intro l
 induction l with
 |nil=>rfl
 |cons c l ih=>
  rw[List.map_cons,TB.look,List.find?_cons,ih]
  by_cases h:s=ik c
  ·subst h
   have:(c.word==(ik c).data.toList)=true:=by simp[ik]
   rw[aF rfl,this]
   rfl
  ·have:(c.word==s.data.toList)=false:=by
    rw[Hf]
    intro e
    refine h ?_
    cases s with
    |mk a=>simp only[ik] at*;rw[e]
   rw[aj h,this]
theorem YY (s:ByteArray):TB.look s Qm=(GR s.data.toList).map fun c=>(c.many,gQ c):=YZ s LY
theorem JM (k:TypeId) (hk:Tryz.prog.underlying k=some .string) (a b:ByteArray) (w:World):(Op.equal k (.string a) (.string b)).run Tryz.prog w= .ok (decide (a=b)) w:=by
 unfold Op.equal Op.maxDepth
 simp only[go_sem,hk]
 rw[show(a.toList==b.toList)=decide (a=b) from by rw[Bool.eq_iff_iff,Lib.bytes_beq_iff,eQ]]
theorem QQ (k:TypeId) (hk:Tryz.prog.underlying k=some .string) (x:Value) (w:World): ∀(es:List MapEntry) (i:Nat) (r:Option (Nat×Value)),Instr.findNow .string x es i=some r->(Instr.findAsking k x es i).run Tryz.prog w= .ok r w:=by
 intro es
 induction es with
 |nil=>intro i r h;simp only[Instr.findNow,Option.some.injEq] at h;subst h;rfl
 |cons e es ih=>
  intro i r h
  unfold Instr.findNow at h
  cases hs:Instr.sameNow .string x e.key with
  |none=>rw[hs] at h;cases h
  |some b=>
   rw[hs] at h
   obtain⟨a,c,hx,hc,hb⟩: ∃a c:ByteArray,x= .string a/\e.key= .string c/\b=decide (a=c):=by
    revert hs
    cases x <;>cases e.key <;>simp[Instr.sameNow]
    rename_i a c
    intro h
    rw[<-h]
    rw[Bool.eq_iff_iff,Go.MapKept.bytes_beq,eQ]
   subst hx
   conv=>lhs;unfold Instr.findAsking
   simp only[Sem.run_bind,hc,JM k hk a c w,Result.andThen_ok]
   cases b
   ·rw[<-hb]
    simp only[Bool.false_eq_true,if_false]
    exact ih (i+1) r h
   ·rw[<-hb]
    simp only[Option.some.injEq] at h
    subst h
    simp
theorem ui:Xr Tryz.prog 9 UW (fun _=>True) where
 find w x es:=by
  have hk:Tryz.prog.underlying 9=some .string:=by kernel_rfl
  cases hn:Instr.findNow .string x es 0 with
  |none=>simp[Instr.findKey,run_underlying hk,hn]
  |some r=>
   rw[QQ 9 hk x w es 0 r hn]
   simp[Instr.findKey,run_underlying hk,hn]
 check b a w _:=by
  unfold Instr.checkKey
  simp[go_sem]
 eq a b w _ _:=JM _ (by kernel_rfl) a b w
 bits a _:=by simp only[Instr.sameBits];exact(Go.MapKept.bytes_beq a a).2 rfl
theorem aa0:TB.store (ik .uV) (lh.many .uV,gQ .uV) (TB.store (ik .BO) (lh.many .BO,gQ .BO) (TB.store (ik .fill) (lh.many .fill,gQ .fill) (TB.store (ik .ql) (lh.many .ql,gQ .ql) (TB.store (ik .strong) (lh.many .strong,gQ .strong) (TB.store (ik .heap) (lh.many .heap,gQ .heap) (TB.store (ik .unread) (lh.many .unread,gQ .unread) (TB.store (ik .Cc) (lh.many .Cc,gQ .Cc) (TB.store (ik .pY) (lh.many .pY,gQ .pY) (TB.store (ik .turn) (lh.many .turn,gQ .turn) (TB.store (ik .bW) (lh.many .bW,gQ .bW) (TB.store (ik .start) (lh.many .start,gQ .start) (TB.store (ik .void) (lh.many .void,gQ .void) (TB.store (ik .note) (lh.many .note,gQ .note) (TB.store (ik .box) (lh.many .box,gQ .box) (TB.store (ik .rate) (lh.many .rate,gQ .rate) (TB.store (ik .mY) (lh.many .mY,gQ .mY) (TB.store (ik .BM) (lh.many .BM,gQ .BM) (TB.store (ik .tally) (lh.many .tally,gQ .tally) (TB.store (ik .left) (lh.many .left,gQ .left) (TB.store (ik .row) (lh.many .row,gQ .row) ([])))))))))))))))))))))=Qm:=by
 decide+kernel
def aeC (w:World) (e:Ending) (w':World):Prop:= ∃mb,e= .returned (.map (some mb))/\w.heap.size<=mb/\TabAt UW wev (fun _=>True) w' mb Qm/\Below w.heap.size w w'
theorem UL (w:World):Calls Tryz.prog 98 #[] w (aeC w):=by
 have hmm:= @run_makeMap Tryz.prog
 have hm:Tryz.prog.underlying 220=some (.map 9 218):=by kernel_rfl
 have h0:TabAt UW wev (fun _=>True) (w.alloc (.map #[] 0)) w.heap.size []:=KQ (ay _ _)
 obtain⟨W1,r1,t1,e1⟩:=fU ui hm h0 (ik .row) trivial (lh.many .row,gQ .row)
 obtain⟨W2,r2,t2,e2⟩:=fU ui hm t1 (ik .left) trivial (lh.many .left,gQ .left)
 obtain⟨W3,r3,t3,e3⟩:=fU ui hm t2 (ik .tally) trivial (lh.many .tally,gQ .tally)
 obtain⟨W4,r4,t4,e4⟩:=fU ui hm t3 (ik .BM) trivial (lh.many .BM,gQ .BM)
 obtain⟨W5,r5,t5,e5⟩:=fU ui hm t4 (ik .mY) trivial (lh.many .mY,gQ .mY)
 obtain⟨W6,r6,t6,e6⟩:=fU ui hm t5 (ik .rate) trivial (lh.many .rate,gQ .rate)
 obtain⟨W7,r7,t7,e7⟩:=fU ui hm t6 (ik .box) trivial (lh.many .box,gQ .box)
 obtain⟨W8,r8,t8,e8⟩:=fU ui hm t7 (ik .note) trivial (lh.many .note,gQ .note)
 obtain⟨W9,r9,t9,e9⟩:=fU ui hm t8 (ik .void) trivial (lh.many .void,gQ .void)
 obtain⟨Td,r10,t10,e10⟩:=fU ui hm t9 (ik .start) trivial (lh.many .start,gQ .start)
 obtain⟨W11,r11,t11,e11⟩:=fU ui hm t10 (ik .bW) trivial (lh.many .bW,gQ .bW)
 obtain⟨XI,r12,t12,e12⟩:=fU ui hm t11 (ik .turn) trivial (lh.many .turn,gQ .turn)
 obtain⟨W13,r13,t13,e13⟩:=fU ui hm t12 (ik .pY) trivial (lh.many .pY,gQ .pY)
 obtain⟨Uw,r14,t14,e14⟩:=fU ui hm t13 (ik .Cc) trivial (lh.many .Cc,gQ .Cc)
 obtain⟨Xk,r15,t15,e15⟩:=fU ui hm t14 (ik .unread) trivial (lh.many .unread,gQ .unread)
 obtain⟨W16,r16,t16,e16⟩:=fU ui hm t15 (ik .heap) trivial (lh.many .heap,gQ .heap)
 obtain⟨W17,r17,t17,e17⟩:=fU ui hm t16 (ik .strong) trivial (lh.many .strong,gQ .strong)
 obtain⟨W18,r18,t18,e18⟩:=fU ui hm t17 (ik .ql) trivial (lh.many .ql,gQ .ql)
 obtain⟨W19,r19,t19,e19⟩:=fU ui hm t18 (ik .fill) trivial (lh.many .fill,gQ .fill)
 obtain⟨W20,r20,t20,e20⟩:=fU ui hm t19 (ik .BO) trivial (lh.many .BO,gQ .BO)
 obtain⟨W21,r21,t21,e21⟩:=fU ui hm t20 (ik .uV) trivial (lh.many .uV,gQ .uV)
 rw[aa0] at t21
 have hE:Ext [w.heap.size] (w.alloc (.map #[] 0)) W21:=(e1.trans (e2.trans (e3.trans (e4.trans (e5.trans (e6.trans (e7.trans (e8.trans (e9.trans (e10.trans (e11.trans (e12.trans (e13.trans (e14.trans (e15.trans (e16.trans (e17.trans (e18.trans (e19.trans (e20.trans e21))))))))))))))))))))
 have HB:=ae (show Below w.heap.size w W21 from(ak (aH _ _) _).trans ⟨hE.os,hE.tape,hE.output,hE.size,fun b hb=>hE.block b (by simp;omega) (by simp;omega)⟩)
 have HT:=ae t21
 have HE:Hid (w.heap.size<=w.heap.size):=ae (ai _)
 clear h0 hE hm t1 t2 t3 t4 t5 t6 t7 t8 t9 t10 t11 t12 t13 t14 t15 t16 t17 t18 t19 t20 t21 e1 e2 e3 e4 e5 e6 e7 e8 e9 e10 e11 e12 e13 e14 e15 e16 e17 e18 e19 e20 e21
 simp only[ik,lh.word,lh.many,gQ,UW,wev,iv,Int.cast_ofNat_Int,Int.natCast_zero,Int.natCast_one] at r1 r2 r3 r4 r5 r6 r7 r8 r9 r10 r11 r12 r13 r14 r15 r16 r17 r18 r19 r20 r21
 go_enter Tryz.func98,Tryz.ntmps98
 go_wp2
 go_returns
 exact⟨_,by simp,ai _,HT.o,HB.o⟩
theorem Pm {w:World} {b n:Nat} {l:List Bool} {cs:Array Value} {t:TypeId} (h:w.heap[b]? =some (.cells cs t (0,0))) (hc:cs.toList=dI l) (hn:n=l.length) (hm:l.length<=100):BK w (.slice (some ⟨b,0,none⟩) n n) l:=by
 subst hn
 refine⟨by simp[dI],_,_,rfl,ai _,by simp only[maxLen];omega,(fun h=>by cases h),fun a ha=>?_⟩
 cases ha
 refine⟨rfl,?_⟩
 rw[<-hc]
 exact xI h
theorem dW (code:Int) (l:List Bool) (w:World) (hm:l.length<=100) (cs:Array Value) (hc:cs.toList=dI l) (t:TypeId) (n:Nat) (hn:n=l.length):
 Calls Tryz.prog 99 #[iv code,.slice (some ⟨w.heap.size,0,none⟩) n n] (w.alloc (.cells cs t)) (Tm code (l.contains true) w):=by
 refine(Qy code l _ _ (Pm (ay _ _) hc hn hm)).mono ?_
 rintro e w' ⟨hb,h⟩
 exact⟨bn (ak (aH _ _) _) hb,h⟩
theorem qI (a b:Int) (w:World):Calls Tryz.prog 241 #[iv a,iv b] w (Tm 3 (decide (b<=a)) w):=by
 go_enter Tryz.func241,Tryz.ntmps241
 go_wp2_with fail
 refine(dW 3 [decide (b<=a)] w (by simp) _ (by simp[dI]) _ _ rfl).mono ?_
 rintro e w1 ⟨hb,⟨hc,rfl⟩|⟨hc,rfl⟩⟩
 ·(try go_wp2_with fail)
  go_end0
  exact⟨hb,.inl ⟨by simpa using hc,rfl⟩⟩
 ·exact⟨rfl,hb,.inr ⟨by simpa using hc,rfl⟩⟩
theorem jb (a b:Int) (w:World):Calls Tryz.prog 243 #[iv a,iv b] w (Tm 7 (decide (b<=a)) w):=by
 go_enter Tryz.func243,Tryz.ntmps243
 go_wp2_with fail
 refine(dW 7 [decide (b<=a)] w (by simp) _ (by simp[dI]) _ _ rfl).mono ?_
 rintro e w1 ⟨hb,⟨hc,rfl⟩|⟨hc,rfl⟩⟩
 ·(try go_wp2_with fail)
  go_end0
  exact⟨hb,.inl ⟨by simpa using hc,rfl⟩⟩
 ·exact⟨rfl,hb,.inr ⟨by simpa using hc,rfl⟩⟩
theorem FK (a b m:Int) (w:World):Calls Tryz.prog 296 #[iv a,iv b,iv m] w (Tm 2 (decide (b<a) ||decide (m<b)) w):=by
 go_enter Tryz.func296,Tryz.ntmps296
 go_wp2_with fail
 refine(dW 2 [decide (b<a),decide (m<b)] w (by simp) _ (by simp[dI]) _ _ rfl).mono ?_
 rintro e w1 ⟨hb,⟨hc,rfl⟩|⟨hc,rfl⟩⟩
 ·(try go_wp2_with fail)
  go_end0
  exact⟨hb,.inl ⟨by simpa using hc,rfl⟩⟩
 ·exact⟨rfl,hb,.inr ⟨by simpa using hc,rfl⟩⟩
theorem zK (a b m k:Int) (w:World) (hx:0<=a/\a<=100000/\0<=k/\k<=100000):Calls Tryz.prog 247 #[iv a,iv b,iv m,iv k] w (Tm 2 (decide (b<a) ||(decide (m<b) ||decide (a+k<b))) w):=by
 go_enter Tryz.func247,Tryz.ntmps247
 go_wp2_with fail
 refine(dW 2 [decide (b<a),decide (m<b),decide (a+k<b)] w (by simp) _ (by simp[dI]) _ _ rfl).mono ?_
 rintro e w1 ⟨hb,⟨hc,rfl⟩|⟨hc,rfl⟩⟩
 ·(try go_wp2_with fail)
  go_end0
  exact⟨hb,.inl ⟨by simpa using hc,rfl⟩⟩
 ·exact⟨rfl,hb,.inr ⟨by simpa using hc,rfl⟩⟩
end Go.Proofs.YthllkbbbapgelaaGreatDoor.Bk
end
section
namespace Go.Proofs.YthllkbbbapgelaaGreatDoor.Bk
open Go.RowKit Go.RG Go.SL Go.Shelf jl Go.TB Go.Proofs.YthllkbbbapgelaaGreatDoor.zo
structure Row where
 t:TypeId
 size:Nat
 v:Value
 n:Nat
 xs:List Value
structure xk (N:Nat) (w:World) (wb:Nat) (R:List Row):Prop where
 own: ∀(i:Nat) (r:Row),R[i]? =some r->w.ownsRow N r.t r.size r.v r.n r.xs
 apart: ∀(i j:Nat) (a b:Row),R[i]? =some a->R[j]? =some b->i≠j->a.v.ownBlock=none∨a.v.ownBlock≠b.v.ownBlock
 off: ∀(i:Nat) (r:Row),R[i]? =some r->r.v.ownBlock≠some wb
 lt:wb<w.heap.size
 base:N<=wb
theorem dm {w W:World} {N:Nat} {t:TypeId} {size:Nat} {v:Value} {n:Nat} {xs:List Value} (h:w.ownsRow N t size v n xs) {Ms:List Nat} (hE:Ext Ms w W) (hM: ∀b,v.ownBlock=some b->b∉Ms):W.ownsRow N t size v n xs:=by
 obtain⟨h1,h2|⟨g,c,cs,rfl,hb,hc,h3⟩⟩:=h
 ·exact⟨h1,.inl h2⟩
 ·exact⟨h1,.inr ⟨g,c,cs,rfl,hb,(hE.block g (aS.1 hc).1 (hM g rfl)).trans hc,h3⟩⟩
theorem xk.keep {N:Nat} {w W:World} {wb:Nat} {R:List Row} (h:xk N w wb R) {Ms:List Nat} (hE:Ext Ms w W) (hM: ∀m∈Ms,m=wb∨m<N):xk N W wb R where
 own i r hr:=dm (h.own i r hr) hE (fun b hb hm=>by
  rcases hM b hm with rfl|h1
  ·exact h.off i r hr hb
  ·have:=((h.own i r hr).lt b hb).1;omega)
 apart:=h.apart
 off:=h.off
 lt:=fJ h.lt hE.size
 base:=h.base
theorem xk.put {N:Nat} {w W:World} {wb:Nat} {R:List Row} (h:xk N w wb R) {i:Nat} {r:Row} (hr:R[i]? =some r) (r':Row) {Ms:List Nat} (hE:Ext Ms w W) (hM: ∀m∈Ms,m=wb∨m<N∨r.v.ownBlock=some m)
 (ho:W.ownsRow N r'.t r'.size r'.v r'.n r'.xs) (hb:r'.v.ownBlock=r.v.ownBlock∨r'.v.ownBlock=none∨ ∃k,r'.v.ownBlock=some k/\w.heap.size<=k):xk N W wb (R.set i r'):=by
 have hlt:=(ji.1 hr).1
 have key: ∀(j:Nat) (x:Row),(R.set i r')[j]? =some x->(j=i/\x=r')∨(j≠i/\R[j]? =some x):=by
  intro j x hx
  rw[List.getElem?_set] at hx
  by_cases e:i=j
  ·subst e
   rw[aF rfl,aF hlt] at hx
   exact .inl ⟨rfl,(jy hx).symm⟩
  ·rw[aj e] at hx
   exact .inr ⟨fun h=>e h.symm,hx⟩
 have new: ∀(j:Nat) (x:Row),R[j]? =some x->j≠i->x.v.ownBlock=none∨x.v.ownBlock≠r'.v.ownBlock:=by
  intro j x hx hj
  rcases hb with hb|hb|⟨k,hk,hs⟩
  ·rw[hb];exact h.apart j i x r hx hr hj
  ·rw[hb]
   cases x.v.ownBlock with
   |none=>exact .inl rfl
   |some b=>exact .inr (by simp)
  ·rw[hk]
   cases hxb:x.v.ownBlock with
   |none=>exact .inl rfl
   |some b=>
    refine .inr fun e=>?_
    obtain rfl:=jy e
    have:=((h.own j x hx).lt b hxb).2
    omega
 refine⟨fun j x hx=>?_,fun j k a b ha hbb hjk=>?_,fun j x hx=>?_,fJ h.lt hE.size,h.base⟩
 ·rcases key j x hx with⟨rfl,rfl⟩|⟨hj,hx'⟩
  ·exact ho
  ·refine dm (h.own j x hx') hE (fun b hbb hm=>?_)
   rcases hM b hm with rfl|h1|h1
   ·exact h.off j x hx' hbb
   ·have:=((h.own j x hx').lt b hbb).1;omega
   ·rcases h.apart j i x r hx' hr hj with h2|h2
    ·rw[h2] at hbb;cases hbb
    ·exact h2 (hbb.trans h1.symm)
 ·rcases key j a ha with⟨rfl,rfl⟩|⟨hj,ha'⟩
  ·rcases key k b hbb with⟨rfl,rfl⟩|⟨hk,hb'⟩
   ·exact absurd rfl hjk
   ·rcases new k b hb' hk with h1|h1
    ·rcases hq:a.v.ownBlock with _|q
     ·exact .inl rfl
     ·exact .inr (by rw[h1];simp)
    ·exact .inr fun e=>h1 e.symm
  ·rcases key k b hbb with⟨rfl,rfl⟩|⟨hk,hb'⟩
   ·exact new j a ha' hj
   ·exact h.apart j k a b ha' hb' hjk
 ·rcases key j x hx with⟨rfl,rfl⟩|⟨hj,hx'⟩
  ·rcases hb with hb|hb|⟨k,hk,hs⟩
   ·rw[hb];exact h.off _ r hr
   ·rw[hb];simp
   ·rw[hk];intro e;obtain rfl:=jy e;have:=h.lt;omega
  ·exact h.off j x hx'
theorem xk.push {N:Nat} {w W:World} {wb:Nat} {R:List Row} (h:xk N w wb R) (r':Row) {Ms:List Nat} (hE:Ext Ms w W) (hM: ∀m∈Ms,m=wb∨m<N)
 (ho:W.ownsRow N r'.t r'.size r'.v r'.n r'.xs) (hb:r'.v.ownBlock=none∨ ∃k,r'.v.ownBlock=some k/\w.heap.size<=k):xk N W wb (R++[r']):=by
 have hk:=h.keep hE hM
 have key: ∀(j:Nat) (x:Row),(R++[r'])[j]? =some x->(R[j]? =some x)∨(j=R.length/\x=r'):=by
  intro j x hx
  by_cases hj:j<R.length
  ·rw[uQ hj] at hx;exact .inl hx
  ·rw[ou (by omega)] at hx
   have h0:=(ji.1 hx).1
   simp only[List.length_cons,List.length_nil] at h0
   have:j-R.length=0:=by omega
   rw[this] at hx
   simp only[List.getElem?_cons_zero,Option.some.injEq] at hx
   exact .inr ⟨by omega,hx.symm⟩
 have new: ∀(j:Nat) (x:Row),R[j]? =some x->(x.v.ownBlock=none∨x.v.ownBlock≠r'.v.ownBlock)/\(r'.v.ownBlock=none∨r'.v.ownBlock≠x.v.ownBlock):=by
  intro j x hx
  rcases hb with hb|⟨k,hk,hs⟩
  ·rw[hb]
   refine⟨?_,.inl rfl⟩
   cases x.v.ownBlock with
   |none=>exact .inl rfl
   |some b=>exact .inr (by simp)
  ·have:x.v.ownBlock≠some k:=fun e=>by have:=((h.own j x hx).lt k e).2;omega
   rw[hk]
   exact⟨.inr this,.inr fun e=>this e.symm⟩
 refine⟨fun j x hx=>?_,fun j k a b ha hbb hjk=>?_,fun j x hx=>?_,hk.lt,h.base⟩
 ·rcases key j x hx with h1|⟨_,rfl⟩
  ·exact hk.own j x h1
  ·exact ho
 ·rcases key j a ha with h1|⟨h1,rfl⟩ <;>rcases key k b hbb with h2|⟨h2,rfl⟩
  ·exact h.apart j k a b h1 h2 hjk
  ·exact(new j a h1).1
  ·exact(new k b h2).2
  ·omega
 ·rcases key j x hx with h1|⟨_,rfl⟩
  ·exact h.off j x h1
  ·rcases hb with hb|⟨k,hk,hs⟩
   ·rw[hb];simp
   ·rw[hk];intro e;obtain rfl:=jy e;have:=h.lt;omega
structure SV where
 xn:Value
 Vr:Value
 bW:Value
 Ih:Value
 PR:Value
 hps:Value
 cks:Value
 trs:Value
abbrev dR (s:jJ) (V:SV):Array Value:=
 #[iv s.led.field.rows,iv s.led.field.aK,iv s.led.field.left.1,iv s.led.field.left.2,V.xn,iv s.led.rate,iv s.led.box.1,iv s.led.box.2,V.Vr,
   iv s.heap.last,iv s.heap.size,iv s.heap.aY,iv s.heap.die,iv s.heap.uu,iv s.heap.start.1,iv s.heap.start.2,V.bW,V.Ih,V.PR,V.hps,V.cks,V.trs]
def yY (e:KE):Row:=⟨3,1,e.1,e.2.length,ah e.2⟩
def iI (s:jJ) (V:SV) (es:List KE):List Row:=
 [⟨186,5,V.xn,s.led.field.ax.length,dJ s.led.field.ax⟩,⟨188,3,V.Vr,s.led.notes.length,aX s.led.notes⟩,
   ⟨50,2,V.bW,s.heap.bW.length,aG s.heap.bW⟩,⟨3,1,V.Ih,s.heap.turns.length,ah s.heap.turns⟩,⟨190,3,V.PR,s.heap.readings.length,aX s.heap.readings⟩,
   ⟨129,2,V.hps,s.dw.heaps.length,aG s.dw.heaps⟩,⟨52,1,V.cks,es.length,eP es⟩,⟨192,4,V.trs,s.dw.aJ.length,gU s.dw.aJ⟩]++es.map yY
structure jO (N:Nat) (w:World) (wb:Nat) (s:jJ) (V:SV) (es:List KE):Prop where
 blk:w.heap[wb]? =some (.cells (dR s V) 228 (0,0))
 rows:xk N w wb (iI s V es)
 es:es.map (·.2)=s.dw.aU
def rQ (N:Nat) (w:World) (ns:Value) (l:List Int):Prop:= ∃b c,ns= .slice (some ⟨b,0,none⟩) l.length c/\b<N/\ ∀(j:Nat) (h:j<l.length),w.cell? ⟨b,j,none⟩=some (iv l[j])
def ru (N:Nat) (wb:Nat) (x:Int×jJ) (w:World) (e:Ending) (w':World):Prop:=
 Below N w w'/\((x.1=0/\e= .returned (.tuple #[])/\ ∃V es,jO N w' wb x.2 V es)∨(x.1≠0/\e= .panicked (kz x.1)))
theorem eG {N:Nat} {w:World} {wb:Nat} {s:jJ} {V:SV} {es:List KE} (h:jO N w wb s V es):N<=w.heap.size:=by have:=h.rows.lt;have:=h.rows.base;omega
theorem jO.below {N:Nat} {w W:World} {wb:Nat} {s:jJ} {V:SV} {es:List KE} (h:jO N w wb s V es) (hb:Below w.heap.size w W):jO N W wb s V es:=
 ⟨(hb.block _ h.rows.lt).trans h.blk,h.rows.keep (Ms:=[]) (Ext.aA hb) (by simp),h.es⟩
theorem jO.store {N:Nat} {w W:World} {wb:Nat} {s s':jJ} {V:SV} {es:List KE} (h:jO N w wb s V es) (hE:Ext [wb] w W) (hb:W.heap[wb]? =some (.cells (dR s' V) 228 (0,0))) (hr:iI s' V es=iI s V es) (hc:s'.dw.aU=s.dw.aU):jO N W wb s' V es:=
 ⟨hb,by rw[hr];exact h.rows.keep hE (fun m hm=> .inl (by simpa using hm)),by rw[hc];exact h.es⟩
theorem gz {W:World} {b off:Nat} {v:Value}:Ext [b] W (W.setCell ⟨b,off,none⟩ v):=
 ⟨rfl,rfl,rfl,by simp[World.setCell],fun k _ hm=>heap_setCell_other W _ k v (by simpa using hm)⟩
theorem bU (a b m:Int):(KC a b m=false)= ¬(a<=b/\b<=m):=by
 unfold KC
 by_cases h1:a<=b <;>by_cases h2:b<=m <;>simp[h1,h2]
theorem bV (a b m k:Int):(KR a b m k=false)= ¬(a<=b/\b<=m/\b<=a+k):=by
 unfold KR
 by_cases h1:a<=b <;>by_cases h2:b<=m <;>by_cases h3:b<=a+k <;>simp[h1,h2,h3]
def aeF (c:Prop) (v:Value) (w:World) (e:Ending) (w':World):Prop:=Below w.heap.size w w'/\((c/\e= .returned v)∨(¬c/\e= .panicked (kz 2)))
theorem vW {N wb:Nat} {x:Int×jJ} {w w':World} {c:Int} (h3:Below N w w') (hx:x.1=c) (hc:c≠0):ru N wb x w (.panicked (kz c)) w':=⟨h3,.inr ⟨by rw[hx];exact hc,by rw[hx]⟩⟩
theorem vG (a b:Int) (w:World):Calls Tryz.prog 245 #[iv a,iv b] w (aeF (a<=b/\b<=2000) (rv (a,b)) w):=by
 go_enter Tryz.func245,Tryz.ntmps245
 go_wp2_with fail
 refine(FK _ _ _ _).mono ?_
 rintro e w1 ⟨hb,⟨hc,rfl⟩|⟨hc,rfl⟩⟩
 ·simp only[Bool.or_eq_false_iff,decide_eq_false_iff_not] at hc
  have HB:=ae hb
  obtain⟨c0,f0,l0⟩:=af ((hb.block w.heap.size (by simp)).trans (ay _ _))
  have HC:=ae hc
  have c00:=c0 0
  have c01:=c0 1
  simp at c00 c01
  have d0:(w1.setCell ⟨w.heap.size,0,none⟩ (iv a)).cell? ⟨w.heap.size,0,none⟩=some (iv a):=World.cell?_setCell_same _ _ _ c00
  have d1:((w1.setCell ⟨w.heap.size,0,none⟩ (iv a)).setCell ⟨w.heap.size,1,none⟩ (iv b)).cell? ⟨w.heap.size,1,none⟩=some (iv b):=World.cell?_setCell_same _ _ _ ((World.cell?_setCell_other _ _ _ _ (by simp)).trans c01)
  clear hb hc c0
  go_wp2_with fail
  (try simp only[Exit.inBlock,Exit.then])
  refine bodyPost_ret (v:=rv (a,b)) (by simp[results,Tryz.results245,go_sem,d0,d1]) rfl ?_
  exact⟨((bn (ak (aH _ _) _) HB.o).setCell (ai _) _).setCell (ai _) _,.inl ⟨by have:=HC.o;omega,rfl⟩⟩
 ·simp only[Bool.or_eq_true,eQ] at hc
  exact⟨rfl,bn (ak (aH _ _) _) hb,.inr ⟨by omega,rfl⟩⟩
theorem uF (a b:Int) (wb:Nat) (s:jJ) (V:SV) (w:World) (hblk:w.heap[wb]? =some (.cells (dR s V) 228 (0,0))):Calls Tryz.prog 242 #[.pointer (some ⟨wb,0,none⟩),iv a,iv b] w (aeF (a<=b/\b<=s.led.field.rows) (rv (a,b)) w):=by
 obtain⟨k0,g0,j0⟩:=af hblk
 clear hblk
 go_enter Tryz.func242,Tryz.ntmps242
 go_wp2_with fail
 refine(FK _ _ _ _).mono ?_
 rintro e w1 ⟨hb,⟨hc,rfl⟩|⟨hc,rfl⟩⟩
 ·simp only[Bool.or_eq_false_iff,decide_eq_false_iff_not] at hc
  have HB:=ae hb
  obtain⟨c0,f0,l0⟩:=af ((hb.block w.heap.size (by simp)).trans (ay _ _))
  have HC:=ae hc
  have c00:=c0 0
  have c01:=c0 1
  simp at c00 c01
  have d0:(w1.setCell ⟨w.heap.size,0,none⟩ (iv a)).cell? ⟨w.heap.size,0,none⟩=some (iv a):=World.cell?_setCell_same _ _ _ c00
  have d1:((w1.setCell ⟨w.heap.size,0,none⟩ (iv a)).setCell ⟨w.heap.size,1,none⟩ (iv b)).cell? ⟨w.heap.size,1,none⟩=some (iv b):=World.cell?_setCell_same _ _ _ ((World.cell?_setCell_other _ _ _ _ (by simp)).trans c01)
  clear hb hc c0 k0 g0 j0
  go_wp2_with fail
  (try simp only[Exit.inBlock,Exit.then])
  refine bodyPost_ret (v:=rv (a,b)) (by simp[results,Tryz.results242,go_sem,d0,d1]) rfl ?_
  exact⟨((bn (ak (aH _ _) _) HB.o).setCell (ai _) _).setCell (ai _) _,.inl ⟨by have:=HC.o;omega,rfl⟩⟩
 ·simp only[Bool.or_eq_true,eQ] at hc
  exact⟨rfl,bn (ak (aH _ _) _) hb,.inr ⟨by omega,rfl⟩⟩
theorem vV (a b k:Int) (w:World) (hx:0<=a/\a<=100000/\0<=k/\k<=100000):Calls Tryz.prog 252 #[iv a,iv b,iv k] w (aeF (a<=b/\b<=100/\b<=a+k) (rv (a,b)) w):=by
 go_enter Tryz.func252,Tryz.ntmps252
 go_wp2_with fail
 refine(zK _ _ _ _ _ hx).mono ?_
 rintro e w1 ⟨hb,⟨hc,rfl⟩|⟨hc,rfl⟩⟩
 ·simp only[Bool.or_eq_false_iff,decide_eq_false_iff_not] at hc
  have HB:=ae hb
  obtain⟨c0,f0,l0⟩:=af ((hb.block w.heap.size (by simp)).trans (ay _ _))
  have HC:=ae hc
  have c00:=c0 0
  have c01:=c0 1
  simp at c00 c01
  have d0:(w1.setCell ⟨w.heap.size,0,none⟩ (iv a)).cell? ⟨w.heap.size,0,none⟩=some (iv a):=World.cell?_setCell_same _ _ _ c00
  have d1:((w1.setCell ⟨w.heap.size,0,none⟩ (iv a)).setCell ⟨w.heap.size,1,none⟩ (iv b)).cell? ⟨w.heap.size,1,none⟩=some (iv b):=World.cell?_setCell_same _ _ _ ((World.cell?_setCell_other _ _ _ _ (by simp)).trans c01)
  clear hb hc c0
  go_wp2_with fail
  (try simp only[Exit.inBlock,Exit.then])
  refine bodyPost_ret (v:=rv (a,b)) (by simp[results,Tryz.results252,go_sem,d0,d1]) rfl ?_
  exact⟨((bn (ak (aH _ _) _) HB.o).setCell (ai _) _).setCell (ai _) _,.inl ⟨by have:=HC.o;omega,rfl⟩⟩
 ·simp only[Bool.or_eq_true,eQ] at hc
  exact⟨rfl,bn (ak (aH _ _) _) hb,.inr ⟨by omega,rfl⟩⟩
theorem xX (a:Int) (wb:Nat) (s:jJ) (V:SV) (w:World) (hblk:w.heap[wb]? =some (.cells (dR s V) 228 (0,0))) (hl:s.heap.last=4):Calls Tryz.prog 248 #[.pointer (some ⟨wb,0,none⟩),iv a] w (Tm 7 (decide (4<a)) w):=by
 obtain⟨k0,g0,j0⟩:=af hblk
 clear hblk
 go_enter Tryz.func248,Tryz.ntmps248
 go_wp2_with fail
 refine(jb _ _ _).mono ?_
 rintro e w1 ⟨hb,⟨hc,rfl⟩|⟨hc,rfl⟩⟩
 ·(try go_wp2_with fail)
  go_end0
  exact⟨hb,.inl ⟨by simp at hc⊢;omega,rfl⟩⟩
 ·exact⟨rfl,hb,.inr ⟨by simp at hc⊢;omega,rfl⟩⟩
theorem aba (N:Nat) (w:World) (wb:Nat) (s:jJ) (V:SV) (es:List KE) (ns:Value) (hO:jO N w wb s V es) (hG:fP s):Calls Tryz.prog 153 #[.pointer (some ⟨wb,0,none⟩),ns] w (ru N wb (jc s .row []) w):=by
 have HO:=ae hO
 have hr:=hG.rows
 obtain⟨c0,f0,l0⟩:=af hO.blk
 clear hO hG
 go_enter Tryz.func153,Tryz.ntmps153
 go_wp2_with fail
 refine(qI _ _ _).mono ?_
 rintro e w1 ⟨hb,⟨hc,rfl⟩|⟨hc,rfl⟩⟩
 ·obtain⟨c1,f1,l1⟩:=af ((hb.block _ l0).trans HO.o.blk)
  have HB:=ae hb
  clear hb c0 f0
  have hlt: ¬5<=s.led.field.rows:=by simpa using hc
  have hlt':s.led.field.rows<5:=by omega
  clear hc
  go_wp2_with fail
  go_end0
  have zV:=HO.o.below HB.o
  simp only[jc]
  rw[aj (by omega)]
  refine⟨(HB.o.mono (eG HO.o)).setCell HO.o.rows.base _,.inl ⟨rfl,rfl,V,es,?_⟩⟩
  exact zV.store gz (aI zV.blk _) rfl rfl
 ·have hge:5<=s.led.field.rows:=by simpa using hc
  simp only[jc]
  rw[aF hge]
  exact⟨rfl,hb.mono (eG HO.o),.inr ⟨by simp,rfl⟩⟩
theorem Yq (N:Nat) (w:World) (wb:Nat) (s:jJ) (V:SV) (es:List KE) (ns:Value) (x:Int) (hO:jO N w wb s V es) (hn:rQ N w ns [x]):Calls Tryz.prog 158 #[.pointer (some ⟨wb,0,none⟩),ns] w (ru N wb (jc s .rate [x]) w):=by
 obtain⟨vt,vn,vw,vu,vr,vh,vk,vs⟩:=V
 have HO:=ae hO
 have gK:=eG hO
 obtain⟨b,c,rfl,hbN,hcs⟩:=hn
 have lb:b<w.heap.size:=by omega
 have lw:=hO.rows.lt
 have vU:=hO.rows.base
 have HW:Hid (∀W,Below N w W->b<W.heap.size/\ ∀(j:Nat) (h:j<[x].length),W.cell? ⟨b,j,none⟩=some (iv [x][j])):=ae (fun W hB=>⟨by have:=hB.size;omega,fun j h=>(ja (hB.block b hbN)).trans (hcs j h)⟩)
 obtain⟨c0,f0,l0⟩:=af hO.blk
 have oN:=hcs 0 (by simp)
 simp only[au] at oN
 have HB0:Hid (Below w.heap.size w w):=ae (aH _ _)
 clear hO hcs
 go_enter Tryz.func158,Tryz.ntmps158
 go_wp2_with fail
 refine zg 8 [] none [] ?_
 simp only[zt]
 repeat ((first|refine zd ?_|refine zk ?_);simp only[zp])
 intro W1 hE hF
 have HB1:=ae (bn HB0.o hE.below)
 clear hE hF c0 f0 oN
 obtain⟨c1,f1,l1⟩:=af ((HB1.o.block _ lw).trans HO.o.blk)
 obtain⟨wB,hcs1⟩:=HW.o W1 (HB1.o.mono gK)
 have n10:=hcs1 0 (by simp)
 simp only[au] at n10
 clear hcs1
 go_wp2_with fail
 refine(dW 2 [x==0,decide (50<x)] W1 (by simp) _ (by simp[dI]) _ _ rfl).mono ?_
 rintro e W2 ⟨hb,⟨hc,rfl⟩|⟨hc,rfl⟩⟩
 rotate_left
 ·simp at hc
  simp only[jc,bU,bV,dA]
  (repeat (first|rw[aF (by omega)]|rw[aj (by omega)]))
  exact⟨rfl,(bn HB1.o hb).mono gK,.inr ⟨by simp,rfl⟩⟩
 simp at hc
 have HB2:=ae (bn HB1.o hb)
 have jK:=ae hc
 clear hb hc c1 f1 wB n10
 obtain⟨c2,f2,l2⟩:=af ((HB2.o.block _ lw).trans HO.o.blk)
 obtain⟨xq,hcs2⟩:=HW.o W2 (HB2.o.mono gK)
 have n20:=hcs2 0 (by simp)
 simp only[au] at n20
 clear hcs2
 go_wp2_with fail
 go_end0
 have q0:=jK.o
 simp only[jc,bU,bV,dA]
 (repeat (first|rw[aF (by omega)]|rw[aj (by omega)]))
 have zV:=HO.o.below HB2.o
 exact⟨((HB2.o.mono gK).setCell vU _),.inl ⟨rfl,rfl,_,es,zV.store (gz) (aI (zV.blk) _) rfl rfl⟩⟩
theorem ab8 (N:Nat) (w:World) (wb:Nat) (s:jJ) (V:SV) (es:List KE) (ns:Value) (x y:Int) (hO:jO N w wb s V es) (hn:rQ N w ns [x,y]):Calls Tryz.prog 159 #[.pointer (some ⟨wb,0,none⟩),ns] w (ru N wb (jc s .box [x,y]) w):=by
 obtain⟨vt,vn,vw,vu,vr,vh,vk,vs⟩:=V
 have HO:=ae hO
 have gK:=eG hO
 obtain⟨b,c,rfl,hbN,hcs⟩:=hn
 have lb:b<w.heap.size:=by omega
 have lw:=hO.rows.lt
 have vU:=hO.rows.base
 have HW:Hid (∀W,Below N w W->b<W.heap.size/\ ∀(j:Nat) (h:j<[x,y].length),W.cell? ⟨b,j,none⟩=some (iv [x,y][j])):=ae (fun W hB=>⟨by have:=hB.size;omega,fun j h=>(ja (hB.block b hbN)).trans (hcs j h)⟩)
 obtain⟨c0,f0,l0⟩:=af hO.blk
 have oN:=hcs 0 (by simp)
 simp only[au] at oN
 have n01:=hcs 1 (by simp)
 simp only[au] at n01
 have HB0:Hid (Below w.heap.size w w):=ae (aH _ _)
 clear hO hcs
 go_enter Tryz.func159,Tryz.ntmps159
 go_wp2_with fail
 refine RX.gy (fun ps W'=> ¬(x<=y/\y<=2000)/\ps=kz 2/\Below N w W') 8 [] none [(7,⟨fun _ v=>v=rv (x,y),fun _ _ _=>(x<=y/\y<=2000)⟩)] (by rintro ps a1 Wx hdf ⟨h1,rfl,h3⟩;refine⟨hdf,vW (c:=2) h3 ?_ (by decide)⟩;simp only[jc,bU,bV,dA];(repeat (first|rw[aF (by omega)]|rw[aj (by omega)]))) (by as_aux_lemma=>kernel_rfl) (by as_aux_lemma=>kernel_rfl) ?_
 simp only[zt]
 repeat (refine RX.zd ?_;simp only[zp])
 refine RX.bG _ (by rfl) (by rfl) ⟨_,rfl⟩ (fun Wq hE2 hF2=>?_) (fun v Wa Wb ho hE=>ho) (fun v hv=>?_)
 ·have hE':Ext [] w Wq:=hE2
  refine RX.dB 245 #[iv x,iv y] (by go_simp;try rfl) ?_
  refine(vG x y Wq).mono ?_
  rintro e w' ⟨hb,⟨hc,rfl⟩|⟨hc,rfl⟩⟩
  ·exact .inl ⟨_,rfl,rfl,hc,Ext.aA hb⟩
  ·exact .inr ⟨_,rfl,hc,rfl,(bn HB0.o (bn hE'.below hb)).mono gK⟩
 obtain rfl:v=rv (x,y):=hv
 simp only[zp]
 intro W1 hE hF
 have hc:x<=y/\y<=2000:=hF _ (bF _)
 have HB1:=ae (bn HB0.o (show Ext [] w W1 from hE).below)
 have jK:=ae hc
 clear hE hF hc c0 f0 oN n01
 obtain⟨c1,f1,l1⟩:=af ((HB1.o.block _ lw).trans HO.o.blk)
 obtain⟨wB,hcs1⟩:=HW.o W1 (HB1.o.mono gK)
 have n10:=hcs1 0 (by simp)
 simp only[au] at n10
 have n11:=hcs1 1 (by simp)
 simp only[au] at n11
 clear hcs1
 go_wp2_with fail
 go_end0
 have q0:=jK.o
 simp only[jc,bU,bV,dA]
 (repeat (first|rw[aF (by omega)]|rw[aj (by omega)]))
 have zV:=HO.o.below HB1.o
 exact⟨(((HB1.o.mono gK).setCell vU _).setCell vU _),.inl ⟨rfl,rfl,_,es,zV.store ((gz).trans gz) (aI (aI (zV.blk) _) _) rfl rfl⟩⟩
theorem Y1 (N:Nat) (w:World) (wb:Nat) (s:jJ) (V:SV) (es:List KE) (ns:Value) (x y:Int) (hO:jO N w wb s V es) (hn:rQ N w ns [x,y]):Calls Tryz.prog 154 #[.pointer (some ⟨wb,0,none⟩),ns] w (ru N wb (jc s .left [x,y]) w):=by
 obtain⟨vt,vn,vw,vu,vr,vh,vk,vs⟩:=V
 have HO:=ae hO
 have gK:=eG hO
 obtain⟨b,c,rfl,hbN,hcs⟩:=hn
 have lb:b<w.heap.size:=by omega
 have lw:=hO.rows.lt
 have vU:=hO.rows.base
 have HW:Hid (∀W,Below N w W->b<W.heap.size/\ ∀(j:Nat) (h:j<[x,y].length),W.cell? ⟨b,j,none⟩=some (iv [x,y][j])):=ae (fun W hB=>⟨by have:=hB.size;omega,fun j h=>(ja (hB.block b hbN)).trans (hcs j h)⟩)
 obtain⟨c0,f0,l0⟩:=af hO.blk
 have oN:=hcs 0 (by simp)
 simp only[au] at oN
 have n01:=hcs 1 (by simp)
 simp only[au] at n01
 have HB0:Hid (Below w.heap.size w w):=ae (aH _ _)
 clear hO hcs
 go_enter Tryz.func154,Tryz.ntmps154
 go_wp2_with fail
 refine RX.gy (fun ps W'=> ¬(x<=y/\y<=s.led.field.rows)/\ps=kz 2/\Below N w W') 9 [] none [(8,⟨fun _ v=>v=rv (x,y),fun _ _ _=>(x<=y/\y<=s.led.field.rows)⟩)] (by rintro ps a1 Wx hdf ⟨h1,rfl,h3⟩;refine⟨hdf,vW (c:=2) h3 ?_ (by decide)⟩;simp only[jc,bU,bV,dA];(repeat (first|rw[aF (by omega)]|rw[aj (by omega)]))) (by as_aux_lemma=>kernel_rfl) (by as_aux_lemma=>kernel_rfl) ?_
 simp only[zt]
 repeat (refine RX.zd ?_;simp only[zp])
 refine RX.bG _ (by rfl) (by rfl) ⟨_,rfl⟩ (fun Wq hE2 hF2=>?_) (fun v Wa Wb ho hE=>ho) (fun v hv=>?_)
 ·have hE':Ext [] w Wq:=hE2
  refine RX.dB 242 #[.pointer (some ⟨wb,0,none⟩),iv x,iv y] (by go_simp;try rfl) ?_
  refine(uF x y wb s _ Wq ((hE'.block _ lw (by simp)).trans HO.o.blk)).mono ?_
  rintro e w' ⟨hb,⟨hc,rfl⟩|⟨hc,rfl⟩⟩
  ·exact .inl ⟨_,rfl,rfl,hc,Ext.aA hb⟩
  ·exact .inr ⟨_,rfl,hc,rfl,(bn HB0.o (bn hE'.below hb)).mono gK⟩
 obtain rfl:v=rv (x,y):=hv
 simp only[zp]
 intro W1 hE hF
 have hc:x<=y/\y<=s.led.field.rows:=hF _ (bF _)
 have HB1:=ae (bn HB0.o (show Ext [] w W1 from hE).below)
 have jK:=ae hc
 clear hE hF hc c0 f0 oN n01
 obtain⟨c1,f1,l1⟩:=af ((HB1.o.block _ lw).trans HO.o.blk)
 obtain⟨wB,hcs1⟩:=HW.o W1 (HB1.o.mono gK)
 have n10:=hcs1 0 (by simp)
 simp only[au] at n10
 have n11:=hcs1 1 (by simp)
 simp only[au] at n11
 clear hcs1
 go_wp2_with fail
 go_end0
 have q0:=jK.o
 simp only[jc,bU,bV,dA]
 (repeat (first|rw[aF (by omega)]|rw[aj (by omega)]))
 have zV:=HO.o.below HB1.o
 exact⟨(((HB1.o.mono gK).setCell vU _).setCell vU _),.inl ⟨rfl,rfl,_,es,zV.store ((gz).trans gz) (aI (aI (zV.blk) _) _) rfl rfl⟩⟩
theorem UZ (N:Nat) (w:World) (wb:Nat) (s:jJ) (V:SV) (es:List KE) (ns:Value) (x y:Int) (hO:jO N w wb s V es) (hn:rQ N w ns [x,y]) (hx:0<=x/\x<=9999):Calls Tryz.prog 162 #[.pointer (some ⟨wb,0,none⟩),ns] w (ru N wb (jc s .start [x,y]) w):=by
 obtain⟨vt,vn,vw,vu,vr,vh,vk,vs⟩:=V
 have HO:=ae hO
 have gK:=eG hO
 obtain⟨b,c,rfl,hbN,hcs⟩:=hn
 have lb:b<w.heap.size:=by omega
 have lw:=hO.rows.lt
 have vU:=hO.rows.base
 have HW:Hid (∀W,Below N w W->b<W.heap.size/\ ∀(j:Nat) (h:j<[x,y].length),W.cell? ⟨b,j,none⟩=some (iv [x,y][j])):=ae (fun W hB=>⟨by have:=hB.size;omega,fun j h=>(ja (hB.block b hbN)).trans (hcs j h)⟩)
 obtain⟨c0,f0,l0⟩:=af hO.blk
 have oN:=hcs 0 (by simp)
 simp only[au] at oN
 have n01:=hcs 1 (by simp)
 simp only[au] at n01
 have HB0:Hid (Below w.heap.size w w):=ae (aH _ _)
 clear hO hcs
 go_enter Tryz.func162,Tryz.ntmps162
 go_wp2_with fail
 refine zg 6 [] none [] ?_
 simp only[zt]
 repeat ((first|refine zd ?_|refine zk ?_);simp only[zp])
 intro W1 hE hF
 have HB1:=ae (bn HB0.o hE.below)
 clear hE hF c0 f0 oN n01
 obtain⟨c1,f1,l1⟩:=af ((HB1.o.block _ lw).trans HO.o.blk)
 obtain⟨wB,hcs1⟩:=HW.o W1 (HB1.o.mono gK)
 have n10:=hcs1 0 (by simp)
 simp only[au] at n10
 have n11:=hcs1 1 (by simp)
 simp only[au] at n11
 clear hcs1
 go_wp2_with fail
 refine(zK _ _ _ _ _ (by omega)).mono ?_
 rintro e W2 ⟨hb,⟨hc,rfl⟩|⟨hc,rfl⟩⟩
 rotate_left
 ·simp at hc
  simp only[jc,bU,bV,dA]
  (repeat (first|rw[aF (by omega)]|rw[aj (by omega)]))
  exact⟨rfl,(bn HB1.o hb).mono gK,.inr ⟨by simp,rfl⟩⟩
 simp at hc
 have HB2:=ae (bn HB1.o hb)
 have jK:=ae hc
 clear hb hc c1 f1 wB n10 n11
 obtain⟨c2,f2,l2⟩:=af ((HB2.o.block _ lw).trans HO.o.blk)
 obtain⟨xq,hcs2⟩:=HW.o W2 (HB2.o.mono gK)
 have n20:=hcs2 0 (by simp)
 simp only[au] at n20
 have n21:=hcs2 1 (by simp)
 simp only[au] at n21
 clear hcs2
 go_wp2_with fail
 refine zg 8 [] none [] ?_
 simp only[zt]
 repeat ((first|refine zd ?_|refine zk ?_);simp only[zp])
 intro W3 hE hF
 have HB3:=ae (bn HB2.o hE.below)
 clear hE hF c2 f2 xq n20 n21
 obtain⟨c3,f3,l3⟩:=af ((HB3.o.block _ lw).trans HO.o.blk)
 obtain⟨JA,hcs3⟩:=HW.o W3 (HB3.o.mono gK)
 have n30:=hcs3 0 (by simp)
 simp only[au] at n30
 have n31:=hcs3 1 (by simp)
 simp only[au] at n31
 clear hcs3
 go_wp2_with fail
 go_end0
 have q0:=jK.o
 simp only[jc,bU,bV,dA]
 (repeat (first|rw[aF (by omega)]|rw[aj (by omega)]))
 have zV:=HO.o.below HB3.o
 exact⟨(((HB3.o.mono gK).setCell vU _).setCell vU _),.inl ⟨rfl,rfl,_,es,zV.store ((gz).trans gz) (aI (aI (zV.blk) _) _) rfl rfl⟩⟩
theorem jO.put {N:Nat} {w W:World} {wb:Nat} {s s':jJ} {V V':SV} {es es':List KE} (h:jO N w wb s V es) {i:Nat} {r:Row} (hr:(iI s V es)[i]? =some r) (r':Row) {Ms:List Nat} (hE:Ext Ms w W) (hM: ∀m∈Ms,r.v.ownBlock=some m)
 (ho:W.ownsRow N r'.t r'.size r'.v r'.n r'.xs) (hb:r'.v.ownBlock=r.v.ownBlock∨ ∃k,r'.v.ownBlock=some k/\w.heap.size<=k) {off:Nat} {u:Value} (hblk:(W.setCell ⟨wb,off,none⟩ u).heap[wb]? =some (.cells (dR s' V') 228 (0,0)))
 (hrows:iI s' V' es'=(iI s V es).set i r') (hes:es'.map (·.2)=s'.dw.aU):jO N (W.setCell ⟨wb,off,none⟩ u) wb s' V' es':=by
 refine⟨hblk,?_,hes⟩
 rw[hrows]
 have h1:=h.rows.put hr r' hE (fun m hm=> .inr (.inr (hM m hm))) ho (hb.imp id .inr)
 exact h1.keep gz (fun m hm=> .inl (by simpa using hm))
theorem aT {w:World} {base:Nat} {e:TypeId} {size:Nat} {v:Value} {n:Nat} {xs:List Value} (h:w.ownsRow base e size v n xs): ∃o c,v= .slice o n c:=by
 obtain⟨h1,⟨rfl,rfl⟩|⟨g,c,cs,rfl,h3⟩⟩:=h
 ·exact⟨none,0,rfl⟩
 ·exact⟨_,_,rfl⟩
theorem FP (x y z:Int): ∀u∈[iv x,iv y,iv z],u.oneCell'=true:=by simp[Value.oneCell']
theorem NF (x y z p q:Int): ∀u∈[iv x,iv y,iv z,iv p,iv q],u.oneCell'=true:=by simp[Value.oneCell']
theorem abf (x y z:Int): ∀u∈[Value.bool true,iv x,iv y,iv z],u.oneCell'=true:=by simp[Value.oneCell']
theorem YM (x y:Int): ∀u∈[iv x,iv y],u.oneCell'=true:=by simp[Value.oneCell']
theorem one_one (x:Int): ∀u∈[iv x],u.oneCell'=true:=by simp[Value.oneCell']
theorem Yc:iO Tryz.prog 43 186 (.agg #[iv 0,iv 0,iv 0,iv 0,iv 0]) 5 40:=⟨Tryz.underlying43,by kernel_rfl,rfl,by omega⟩
theorem aa5:iO Tryz.prog 47 188 (.agg #[iv 0,iv 0,iv 0]) 3 24:=⟨Tryz.underlying47,by kernel_rfl,rfl,by omega⟩
theorem afx:iO Tryz.prog 56 129 (rv (0,0)) 2 16:=⟨Tryz.underlying56,by kernel_rfl,rfl,by omega⟩
theorem afz:iO Tryz.prog 57 52 (.slice none 0 0) 1 24:=⟨Tryz.underlying57,by kernel_rfl,rfl,by omega⟩
theorem aa3:iO Tryz.prog 58 192 (.agg #[.bool false,iv 0,iv 0,iv 0]) 4 32:=⟨Tryz.underlying58,by kernel_rfl,rfl,by omega⟩
theorem aa4:iO Tryz.prog 53 190 (.agg #[iv 0,iv 0,iv 0]) 3 24:=⟨Tryz.underlying53,by kernel_rfl,rfl,by omega⟩
theorem Y6 (N:Nat) (w:World) (wb:Nat) (s:jJ) (V:SV) (es:List KE) (ns:Value) (x y z:Int) (hO:jO N w wb s V es) (hn:rQ N w ns [x,y,z]) (hG:fP s):Calls Tryz.prog 166 #[.pointer (some ⟨wb,0,none⟩),ns] w (ru N wb (jc s .Cc [x,y,z]) w):=by
 obtain⟨vt,vn,vw,vu,vr,vh,vk,vs⟩:=V
 obtain⟨o,cc,rfl⟩: ∃o c,vr= .slice o s.heap.readings.length c:=aT (n:=s.heap.readings.length) (hO.rows.own 4 _ rfl)
 have HO:=ae hO
 have gK:=eG hO
 obtain⟨b,c,rfl,hbN,hcs⟩:=hn
 have lb:b<w.heap.size:=by omega
 have lw:=hO.rows.lt
 have vU:=hO.rows.base
 have HW:Hid (∀W,Below N w W->b<W.heap.size/\ ∀(j:Nat) (h:j<[x,y,z].length),W.cell? ⟨b,j,none⟩=some (iv [x,y,z][j])):=ae (fun W hB=>⟨by have:=hB.size;omega,fun j h=>(ja (hB.block b hbN)).trans (hcs j h)⟩)
 obtain⟨c0,f0,l0⟩:=af hO.blk
 have oN:=hcs 0 (by simp)
 simp only[au] at oN
 have n01:=hcs 1 (by simp)
 simp only[au] at n01
 have n02:=hcs 2 (by simp)
 simp only[au] at n02
 have HB0:Hid (Below w.heap.size w w):=ae (aH _ _)
 have hl4:=hG.heap.1
 have Ld:=hG.reads
 clear hO hcs hG
 go_enter Tryz.func166,Tryz.ntmps166
 go_wp2_with fail
 refine(xX x wb s _ w ((HB0.o.block _ lw).trans HO.o.blk) hl4).mono ?_
 rintro e W1 ⟨hb,⟨hc,rfl⟩|⟨hc,rfl⟩⟩
 rotate_left
 ·simp at hc
  simp only[jc,bU,bV,dA]
  (repeat (first|rw[aF (by omega)]|rw[aj (by omega)]))
  exact⟨rfl,(bn HB0.o hb).mono gK,.inr ⟨by simp,rfl⟩⟩
 simp at hc
 have HB1:=ae (bn HB0.o hb)
 have jK:=ae hc
 clear hb hc c0 f0 oN n01 n02
 obtain⟨c1,f1,l1⟩:=af ((HB1.o.block _ lw).trans HO.o.blk)
 obtain⟨wB,hcs1⟩:=HW.o W1 (HB1.o.mono gK)
 have n10:=hcs1 0 (by simp)
 simp only[au] at n10
 have n11:=hcs1 1 (by simp)
 simp only[au] at n11
 have n12:=hcs1 2 (by simp)
 simp only[au] at n12
 clear hcs1
 go_wp2_with fail
 refine zg 8 [] none [] ?_
 simp only[zt]
 repeat ((first|refine zd ?_|refine zk ?_);simp only[zp])
 intro W2 hE hF
 have HB2:=ae (bn HB1.o hE.below)
 clear hE hF c1 f1 wB n10 n11 n12
 obtain⟨c2,f2,l2⟩:=af ((HB2.o.block _ lw).trans HO.o.blk)
 obtain⟨xq,hcs2⟩:=HW.o W2 (HB2.o.mono gK)
 have n20:=hcs2 0 (by simp)
 simp only[au] at n20
 have n21:=hcs2 1 (by simp)
 simp only[au] at n21
 have n22:=hcs2 2 (by simp)
 simp only[au] at n22
 clear hcs2
 go_wp2_with fail
 refine(dW 2 [decide (1000<y),decide (50<z)] W2 (by simp) _ (by simp[dI]) _ _ rfl).mono ?_
 rintro e W3 ⟨hb,⟨hc,rfl⟩|⟨hc,rfl⟩⟩
 rotate_left
 ·simp at hc
  have q0:=jK.o
  simp only[jc,bU,bV,dA]
  (repeat (first|rw[aF (by omega)]|rw[aj (by omega)]))
  exact⟨rfl,(bn HB2.o hb).mono gK,.inr ⟨by simp,rfl⟩⟩
 simp at hc
 have HB3:=ae (bn HB2.o hb)
 have ry:=ae hc
 clear hb hc c2 f2 xq n20 n21 n22
 obtain⟨c3,f3,l3⟩:=af ((HB3.o.block _ lw).trans HO.o.blk)
 obtain⟨JA,hcs3⟩:=HW.o W3 (HB3.o.mono gK)
 have n30:=hcs3 0 (by simp)
 simp only[au] at n30
 have n31:=hcs3 1 (by simp)
 simp only[au] at n31
 have n32:=hcs3 2 (by simp)
 simp only[au] at n32
 clear hcs3
 go_wp2_with fail
 refine(qI _ _ _).mono ?_
 rintro e W4 ⟨hb,⟨hc,rfl⟩|⟨hc,rfl⟩⟩
 rotate_left
 ·simp at hc
  have q0:=jK.o
  have q1:=ry.o
  simp only[jc,bU,bV,dA]
  (repeat (first|rw[aF (by omega)]|rw[aj (by omega)]))
  exact⟨rfl,(bn HB3.o hb).mono gK,.inr ⟨by simp,rfl⟩⟩
 simp at hc
 have HB4:=ae (bn HB3.o hb)
 have yA:=ae hc
 clear hb hc c3 f3 JA n30 n31 n32
 obtain⟨c4,f4,l4⟩:=af ((HB4.o.block _ lw).trans HO.o.blk)
 obtain⟨PU,jY⟩:=HW.o W4 (HB4.o.mono gK)
 have n40:=jY 0 (by simp)
 simp only[au] at n40
 have n41:=jY 1 (by simp)
 simp only[au] at n41
 have n42:=jY 2 (by simp)
 simp only[au] at n42
 clear jY
 go_wp2_with fail
 obtain⟨Ms,hMs⟩: ∃Ms,Ms=(Value.slice o s.heap.readings.length cc).ownBlock.toList:=⟨_,rfl⟩
 have hO4:=HO.o.below HB4.o
 have hm1:wb∉Ms:=fun h=>hO4.rows.off 4 _ rfl (by rw[hMs] at h;exact dH.1 h)
 have hm2:b∉Ms:=fun h=>by have:=((hO4.rows.own 4 _ rfl).lt b (by rw[hMs] at h;exact dH.1 h)).1;omega
 have ug: ∀m∈Ms,m<W4.heap.size:=fun m h=>((hO4.rows.own 4 _ rfl).lt m (by rw[hMs] at h;exact dH.1 h)).2
 have HM:=ae hMs
 have jq:=ae hO4
 clear hMs hO4
 refine zg 19 Ms (some 18) [(17,Spec.slice W4.heap.size #[iv x,iv y,iv z] 190 1),(18,⟨fun _ v=> ∃o2 c2,v= .slice o2 (s.heap.readings.length+1) c2,fun _ v Wx=>Wx.ownsRow N 190 3 v (s.heap.readings.length+1) (aX s.heap.readings++[iv x,iv y,iv z])/\(v.ownBlock=(Value.slice o s.heap.readings.length cc).ownBlock∨ ∃q,v.ownBlock=some q/\W4.heap.size<=q)⟩)] ?_
 simp only[zt]
 repeat ((first|refine zd ?_|refine zk ?_);simp only[zp])
 refine dX W4.heap.size _ _ 1 (by rfl) (ai _) (by rfl) ug (by simp) (fun W hW=>by go_simp;try rfl) (fun b6=>?_)
 simp only[zp]
 repeat ((first|refine zd ?_|refine zk ?_);simp only[zp])
 refine bG _ (by rfl) (by rfl) (by exact⟨.slice none (s.heap.readings.length+1) 0,none,0,rfl⟩) (fun W6 hE hF=>?_) (fun v Wa Wb ho hE=>?_) (fun v hv=>?_)
 ·have hE':Ext [] W4 W6:=hE
  obtain⟨b',hb',hge,hcc⟩:=hF _ (bF _) (by kernel_rfl)
  cases hb'
  have hown6:W6.ownsRow N 190 3 (.slice o s.heap.readings.length cc) s.heap.readings.length (aX s.heap.readings):=aC (Ms:=[]) (jq.o.rows.own 4 _ rfl) hE' (by simp)
  have hsrc:aN 3 W6 (.slice (some ⟨b6,0,none⟩) 1 1) 1 ([iv x,iv y,iv z]):=aN.dD 3 1 hcc rfl (by decide)
  refine Does.mono (dK aa4 (by rfl) (by rfl) hown6 (by rfl) hsrc (FP x y z) (by omega) (by omega) (by have:=hE'.size;have:=HB4.o.size;omega)) ?_
  rintro v' W7 ⟨ho,hgr,hcase⟩
  refine⟨aT ho,⟨ho,?_⟩,⟨hgr.os,hgr.tape,hgr.output,hgr.size,fun b hb hn=>hgr.block b hb (fun e=>hn (by rw[HM.o];exact dH.2 e.symm))⟩⟩
  rcases hcase with h1|h1
  ·exact .inl h1
  ·exact .inr ⟨_,h1,hE'.size⟩
 ·exact⟨aC (Ms:=[]) ho.1 hE (by simp),ho.2⟩
 obtain⟨o7,c7,rfl⟩:=hv
 simp only[zp]
 intro W5 hE hF
 obtain⟨qE,zS⟩:=hF _ (bF _)
 have gZ:Ext Ms W4 W5:=hE
 have hbl:=(gZ.block wb jq.o.rows.lt hm1).trans jq.o.blk
 obtain⟨c5,f5,l5⟩:=af hbl
 have iW:=ae (ag gZ (ag qE (ag zS hbl)))
 have Ah:Below N w W5:=(HB4.o.mono gK).trans ⟨gZ.os,gZ.tape,gZ.output,gZ.size,fun k hk=>gZ.block k (by have:=HB4.o.size;omega) (fun h=>by have:=((jq.o.rows.own 4 _ rfl).lt k (by rw[HM.o] at h;exact dH.1 h)).1;omega)⟩
 have pU:=ae Ah
 clear hE hF gZ qE zS hbl Ah hm1 hm2 ug c4 f4 PU n40 n41 n42
 go_wp2_with fail
 go_end0
 have q0:=jK.o
 have q1:=ry.o
 have q2:=yA.o
 simp only[jc,bU,bV,dA]
 (repeat (first|rw[aF (by omega)]|rw[aj (by omega)]))
 refine⟨pU.o.setCell vU _,.inl ⟨rfl,rfl,⟨vt,vn,vw,vu,.slice o7 (s.heap.readings.length+1) c7,vh,vk,vs⟩,es,jq.o.put (i:=4) rfl ⟨190,3,.slice o7 (s.heap.readings.length+1) c7,s.heap.readings.length+1,aX s.heap.readings++[iv x,iv y,iv z]⟩ iW.o.1 (fun m hm=>by rw[HM.o] at hm;exact dH.1 hm) iW.o.2.1 iW.o.2.2.1 (aI iW.o.2.2.2 _) (by simp[iI,iP,aX]) (jq.o.es)⟩⟩
end Go.Proofs.YthllkbbbapgelaaGreatDoor.Bk
end
section
namespace Go.Proofs.YthllkbbbapgelaaGreatDoor
open Go.RowKit Go.RG Go.SL Go.Shelf jl Go.TB
theorem Ut {l:aQ} (hp: ∃d∈gm l,jw l [] d=true) (p:Int->dQ->dQ):(Bv p l (gm l)).length=l.field.aK.toNat:=by
 rcases JV p l (gm l) (gm l).length (ai _) with h|h
 ·obtain⟨d,hd,hc⟩:=hp
  by_cases h0:0<l.field.aK.toNat
  ·rcases G7 p l (gm l) h0 (gm l).length (ai _) with⟨_,h2⟩|⟨h1,_⟩
   ·rw[List.take_length] at h2
    rw[h2 d hd] at hc;cases hc
   ·exact h1
  ·unfold Bv;rw[h];simp;omega
 ·exact h
end Go.Proofs.YthllkbbbapgelaaGreatDoor
end
section
namespace Go.Proofs.YthllkbbbapgelaaGreatDoor
open Go.RowKit Go.RG Go.SL jl Go.Deep
section
variable {H : Type} {enc : TypeId × Value → H} {P : Program} {W : World} {base b0 : Nat} {spare : Nat → Bool} {held : Bool} {r : Reach}
theorem Vm {α:Type} [Inhabited α] (f:α->List Value) (k:Nat) (hk0:0<k) (hf: ∀x,(f x).length=k) {t e:TypeId} (ht:P.underlying t=some (.slice e)) (hk:P.cellsOf e=k)
 (hel: ∀fuel cs x,DataW.trod enc P W base spare held fuel e cs=some x-> ∃y:α,cs=f y)
 {v:Value} (hok:Cell.ok P W r b0 t v) {fuel:Nat} {x:DataW H×List MemPlace} (h:DataW.trod enc P W base spare held fuel t [v]=some x):
 ∃l:List α,aN k W v l.length (l.flatMap f):=by
 rcases open_slice ht h with⟨hc,_⟩|⟨a,len,cap,m,n,D,Pl,hc,hb,hl,hm,hmm,_,hx⟩
 ·cases hc
  exact⟨[],aN.nil k W⟩
 ·cases hc
  have hsp:a.spot=none:=by
   simp only[Cell.ok,ht,World.has] at hok
   exact hok.2.2.2.1
  have hlm:len<=m:=by rw[hmm];split <;>omega
  have each: ∀i,i<m-> ∃y:α, ∀j u,(f y)[j]? =some u->W.cell? ⟨a.block,a.off+(i*k+j),none⟩=some u:=by
   intro i hi
   obtain⟨cs',h1,h2⟩:=hx i hi
   rw[hk] at h1
   obtain⟨_,hlen,hcell⟩:=World.cells?_some h1
   obtain⟨y,rfl⟩:=hel _ _ _ h2
   refine⟨y,fun j u hj=>?_⟩
   have hjk:j<k:=by rw[<-hf y];exact(ji.1 hj).1
   have h3:=hcell j hjk
   rw[add_add] at h3
   obtain⟨b,off,sp⟩:=a
   simp only at hsp
   subst hsp
   rw[Addr.add_lit] at h3
   rw[h3,hj]
  obtain⟨Y,hY⟩:=choose_lt each
  have hlen:((List.range len).map Y).length=len:=by simp
  refine⟨(List.range len).map Y,?_,some a,cap,by rw[hlen],by rw[hlen];exact hl,hm,(fun h=>by cases h),fun a' ha=>?_⟩
  ·have: ∀l:List α,(l.flatMap f).length=l.length*k:=by
    intro l
    induction l with
    |nil=>simp
    |cons z l ih=>rw[List.flatMap_cons,dh,hf,ih,List.length_cons,Nat.add_mul];omega
   exact this _
  ·cases ha
   refine⟨hsp,fun j u hj=>?_⟩
   have hjl:j<(((List.range len).map Y).flatMap f).length:=(ji.1 hj).1
   have agv:(((List.range len).map Y).flatMap f).length=len*k:=by
    have: ∀l:List α,(l.flatMap f).length=l.length*k:=by
     intro l
     induction l with
     |nil=>simp
     |cons z l ih=>rw[List.flatMap_cons,dh,hf,ih,List.length_cons,Nat.add_mul];omega
    rw[this,hlen]
   rw[agv] at hjl
   have hi:j/k<len:=(Nat.div_lt_iff_lt_mul hk0).2 hjl
   have hr:j%k<k:=Nat.mod_lt _ hk0
   have e:j/k*k+j%k=j:=by rw[Nat.mul_comm];exact Nat.div_add_mod j k
   have:=jr f k hf ((List.range len).map Y) (j/k) (j%k) (by rw[hlen];exact hi) hr
   rw[e,hj] at this
   simp only[List.getElem_map,List.getElem_range] at this
   have h4:=hY (j/k) (by omega) (j%k) u this.symm
   rw[e] at h4
   exact h4
end
section
variable {H : Type} {enc : TypeId × Value → H} {W : World} {base b0 : Nat} {spare : Nat → Bool} {held : Bool} {r : Reach}
end
theorem Ii {H:Type} {enc:TypeId×Value->H} {P:Program} (hl:laidOutB P=true) {ts:List TypeId} (hr:(ts.all fun t=>P.readableRec t&&decide (t<P.types.size))=true) {W W':World} {vs:List Value} {ds:List (DataW H)} {ps:List MemPlace}
 (h:DataW.TrodAll enc P W 0 (fun _=>true) true ts vs ds ps) (hb:Below W.heap.size W W') (hlt: ∀x∈ps,x.block<W.heap.size):
 DataW.TrodAll enc P W' 0 (fun b=>decide (b<W.heap.size)) true ts vs ds ps:=by
 induction ts generalizing vs ds ps with
 |nil=>
  cases vs <;>cases ds <;>simp_all [DataW.TrodAll]
 |cons t ts ih=>
  cases vs with
  |nil=>cases ds <;>simp_all [DataW.TrodAll]
  |cons v vs=>
   cases ds with
   |nil=>simp_all [DataW.TrodAll]
   |cons d ds=>
    obtain⟨p,q,h1,h2,rfl⟩:=h
    simp only[List.all_cons,eF,eQ] at hr
    exact⟨p,q,Below.trod hl hr.1.1 hr.1.2 h1 hb (fun x hx=>hlt x (by simp[hx])),ih (by simpa using hr.2) h2 (fun x hx=>hlt x (by simp[hx])),rfl⟩
end Go.Proofs.YthllkbbbapgelaaGreatDoor
end

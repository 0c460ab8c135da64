/-
  Texts of this claim, packed by a program: YA YB YC YE YF DA DB DC DD DE DF DG YD YI OG.
-/
import Derived.WalkKit
import Derived.WalkLawsBesides
import Derived.WalkSpells
import Derived.Outline
import Derived.Handy
import Derived.KernelRfl
import Derived.Lib.Hide
import Derived.Lib.AtoiTie
import Derived.Lib.ItoaNum
import Derived.StringKeys
import Derived.Lib.SlicesS
import Derived.BigRegion
import Derived.Deep.Slices
import Derived.Carry
import Derived.Test.YthbpmepjmebolaaGreatDoorPS8
import Derived.Test.YthbpmepjmebolaaGreatDoorPS11
set_option maxHeartbeats 8000000
set_option maxRecDepth 100000
set_option linter.all false
section
namespace Go.Proofs.YthbpmepjmebolaaGreatDoor.Bk
open ji Go.Proofs.YthbpmepjmebolaaGreatDoor.yR
abbrev aH:=List UInt8
def dh:aH->List aH
 |[]=>[[]]
 |c::l=>if c=32 then[]::dh l else(c::(dh l).headD [])::(dh l).tail
theorem lK: ∀l,dh l≠[]:=by
 intro l
 cases l with
 |nil=>simp[dh]
 |cons c l=>unfold dh;split <;>simp
def iE (c:UInt8):Bool:=decide (48<=c.toNat)&&decide (c.toNat<=57)
def pG (s:aH):Int:=s.foldl (fun n c=>10*n+((c.toNat:Int)-48)) 0
def yX (s:aH):Bool:=decide (1<=s.length)&&decide (s.length<=4)&&(decide (s.headD 0≠48) ||decide (s.length=1))&&s.all iE
def kT (s:aH):Option Int:=if yX s=true then some (pG s) else none
theorem JO: ∀(s:aH) (n:Int),0<=n->s.all iE=true->n*10^s.length<=s.foldl (fun n c=>10*n+((c.toNat:Int)-48)) n/\s.foldl (fun n c=>10*n+((c.toNat:Int)-48)) n<(n+1)*10^s.length:=by
 intro s
 induction s with
 |nil=>intro n h _;simp;omega
 |cons c s ih=>
  intro n h hs
  rw[List.all_cons,eU] at hs
  have hd:=hs.1
  simp only[iE,eU,eH] at hd
  have hp:0<(10:Int)^s.length:=Int.pow_pos (by omega)
  have:=ih (10*n+((c.toNat:Int)-48)) (by omega) hs.2
  rw[List.foldl_cons,List.length_cons,Int.pow_succ]
  have e1:n*(10^s.length*10)=(10*n)*10^s.length:=by rw[Int.mul_comm (10^s.length) 10, <-Int.mul_assoc,Int.mul_comm n 10]
  have e2:(n+1)*(10^s.length*10)=(10*(n+1))*10^s.length:=by rw[Int.mul_comm (10^s.length) 10, <-Int.mul_assoc,Int.mul_comm (n+1) 10]
  rw[e1,e2]
  have h1:(10*n)*10^s.length<=(10*n+((c.toNat:Int)-48))*10^s.length:=Int.mul_le_mul_of_nonneg_right (by omega) (by omega)
  have h2:(10*n+((c.toNat:Int)-48)+1)*10^s.length<=(10*(n+1))*10^s.length:=Int.mul_le_mul_of_nonneg_right (by omega) (by omega)
  omega
theorem Kr {s:aH} {n:Int} (h:kT s=some n):0<=n/\n<=9999:=by
 unfold kT at h
 split at h
 ·rename_i hf
  obtain rfl:=jw h
  simp only[yX,eU,eH] at hf
  have h1:=JO s 0 (by omega) hf.2
  have h2:(10:Int)^s.length<=10000:=by
   have h3:=hf.1.1.1
   have h4:=hf.1.1.2
   clear h1 hf
   generalize s.length=k at*
   rcases(show k=1∨k=2∨k=3∨k=4 by omega) with rfl|rfl|rfl|rfl <;>decide
  unfold pG
  omega
 ·cases h
inductive jZ where
 |row|left|tally|zY|lW|rate|box|note|void|start|bV|turn|oI|AA|unread|heap|strong|pI|fill|zZ|ui
 deriving DecidableEq
def Ls:List jZ:=[.row,.left,.tally,.zY,.lW,.rate,.box,.note,.void,.start,.bV,.turn,.oI,.AA,.unread,.heap,.strong,.pI,.fill,.zZ,.ui]
def jZ.word:jZ->aH
 | .row=>[114,111,119]
 | .left=>[108,101,102,116]
 | .tally=>[116,97,108,108,121]
 | .zY=>[119,97,115,104]
 | .lW=>[117,110,116,97,108,108,121]
 | .rate=>[114,97,116,101]
 | .box=>[98,111,120]
 | .note=>[110,111,116,101]
 | .void=>[118,111,105,100]
 | .start=>[115,116,97,114,116]
 | .bV=>[119,101,116]
 | .turn=>[116,117,114,110]
 | .oI=>[117,110,116,117,114,110]
 | .AA=>[105,114,111,110]
 | .unread=>[117,110,114,101,97,100]
 | .heap=>[104,101,97,112]
 | .strong=>[115,116,114,111,110,103]
 | .pI=>[99,97,115,107]
 | .fill=>[102,105,108,108]
 | .zZ=>[116,114,121]
 | .ui=>[117,110,116,114,121]
def jZ.many:jZ->Nat
 | .row=>0
 | .lW| .rate| .void| .turn| .oI| .unread| .ui=>1
 | .left| .box| .start| .heap| .pI=>2
 | .zY| .note| .bV| .AA| .strong| .fill| .zZ=>3
 | .tally=>5
def sQ (w:aH):Option jZ:=Ls.find? fun c=>c.word==w
theorem RZ (c:jZ):sQ c.word=some c:=by cases c <;>decide
theorem Gq {w:aH} {c:jZ} (h:sQ w=some c):w=c.word:=by
 have:=List.find?_some h
 exact(beq_iff_eq.1 this).symm
theorem fC {w:aH} (h:sQ w=none) (c:jZ):w≠c.word:=by
 intro e
 rw[e,RZ] at h
 cases h
def lD:List aH->Option (List Int)
 |[]=>some []
 |p::ps=>(kT p).bind fun n=>(lD ps).map (n:: ·)
theorem Ja: ∀{ps:List aH} {n:List Int},lD ps=some n->n.length=ps.length:=by
 intro ps
 induction ps with
 |nil=>intro n h;obtain rfl:=jw h;rfl
 |cons p ps ih=>
  intro n h
  unfold lD at h
  cases hp:kT p with
  |none=>rw[hp] at h;cases h
  |some x=>
   cases hq:lD ps with
   |none=>rw[hp,hq] at h;cases h
   |some y=>
    rw[hp,hq] at h
    obtain rfl:=jw h
    simp[ih hq]
theorem Yw: ∀{ps:List aH} {n:List Int},lD ps=some n-> ∀x∈n,0<=x/\x<=9999:=by
 intro ps
 induction ps with
 |nil=>intro n h x hx;obtain rfl:=jw h;cases hx
 |cons p ps ih=>
  intro n h x hx
  unfold lD at h
  cases hp:kT p with
  |none=>rw[hp] at h;cases h
  |some y=>
   cases hq:lD ps with
   |none=>rw[hp,hq] at h;cases h
   |some z=>
    rw[hp,hq] at h
    obtain rfl:=jw h
    rcases gY.1 hx with rfl|hx
    ·exact Kr hp
    ·exact ih hq x hx
def pJ (line:aH):Option (jZ×List Int):=
 (sQ ((dh line).headD [])).bind fun c=>if(dh line).tail.length=c.many then(lD (dh line).tail).map fun n=>(c,n) else none
theorem rZ {line:aH} {c:jZ} {n:List Int} (h:pJ line=some (c,n)):(dh line).headD []=c.word/\n.length=c.many/\(∀x∈n,0<=x/\x<=9999)/\lD (dh line).tail=some n:=by
 unfold pJ at h
 cases hc:sQ ((dh line).headD []) with
 |none=>rw[hc] at h;cases h
 |some d=>
  rw[hc,Option.bind_some] at h
  split at h
  ·rename_i hl
   cases hn:lD (dh line).tail with
   |none=>rw[hn] at h;cases h
   |some m=>
    rw[hn] at h
    obtain⟨rfl,rfl⟩:=Prod.mk.inj (jw h)
    exact⟨Gq hc,by rw[Ja hn,hl],Yw hn,rfl⟩
  ·cases h
structure jI where
 led:aQ
 heap:bZ
 df:bJ
def dX:jI:=
 {led:={field:={rows:=3,aK:=2,left:=(0,3),ax:=[]},rate:=10,box:=(0,2000),notes:=[]}
  heap:={last:=4,size:=10,aY:=50,die:=10,tY:=60,start:=(30,30),bV:=List.replicate 5 (6,6),turns:=[],readings:=[]}
  df:={heaps:=[(40,40)],aU:=[],aJ:=[]}}
def J4 (a b most:Int):Bool:=decide (a<=b)&&decide (b<=most)
def Kw (a b most wide:Int):Bool:=decide (a<=b)&&decide (b<=most)&&decide (b<=a+wide)
def iT (last:Int) (p:Int->Bool):List Int:=((List.range (last+1).toNat).map fun(k:Nat)=>(k:Int)).filter p
def mP (s:jI) (l:List Lu):jI:={s with led:={s.led with field:={s.led.field with ax:=l}}}
def nU (s:jI) (l:List (Int×dP)):jI:={s with led:={s.led with notes:=l}}
def iL (s:jI) (h:bZ):jI:={s with heap:=h}
def fK (s:jI) (c:bJ):jI:={s with df:=c}
def jb (s:jI):jZ->List Int->Int×jI
 | .row,_=>if 5<=s.led.field.rows then(3,s) else(0,{s with led:={s.led with field:={s.led.field with rows:=s.led.field.rows+1}}})
 | .left,n=>if J4 (n.getD 0 0) (n.getD 1 0) s.led.field.rows=false then(2,s)
    else(0,{s with led:={s.led with field:={s.led.field with left:=(n.getD 0 0,n.getD 1 0)}}})
 | .tally,n=>if s.led.field.aK<=n.getD 0 0 then(7,s) else if s.led.field.rows<=n.getD 1 0∨s.led.field.rows<=n.getD 2 0 then(7,s)
    else if n.getD 2 0<n.getD 1 0 then(2,s) else if J4 (n.getD 3 0) (n.getD 4 0) s.led.field.rows=false then(2,s)
    else if 5<=s.led.field.ax.length then(3,s)
    else(0,mP s (s.led.field.ax++[(n.getD 0 0,n.getD 1 0,n.getD 2 0,(n.getD 3 0,n.getD 4 0))]))
 | .zY,n=>if(s.led.field.ax.length:Int)<=n.getD 0 0 then(7,s) else if J4 (n.getD 1 0) (n.getD 2 0) s.led.field.rows=false then(2,s)
    else(0,mP s (s.led.field.ax.set (n.getD 0 0).toNat
     (let t:=s.led.field.ax.getD (n.getD 0 0).toNat (0,0,0,(0,0));(t.1,t.2.1,t.2.2.1,(n.getD 1 0,n.getD 2 0)))))
 | .lW,n=>if(s.led.field.ax.length:Int)<=n.getD 0 0 then(7,s) else(0,mP s (s.led.field.ax.eraseIdx (n.getD 0 0).toNat))
 | .rate,n=>if n.getD 0 0=0∨50<n.getD 0 0 then(2,s) else(0,{s with led:={s.led with rate:=n.getD 0 0}})
 | .box,n=>if J4 (n.getD 0 0) (n.getD 1 0) 2000=false then(2,s) else(0,{s with led:={s.led with box:=(n.getD 0 0,n.getD 1 0)}})
 | .note,n=>if s.led.field.aK<=n.getD 0 0 then(7,s) else if J4 (n.getD 1 0) (n.getD 2 0) 2000=false then(2,s)
    else if 5<=s.led.notes.length then(3,s) else(0,nU s (s.led.notes++[(n.getD 0 0,(n.getD 1 0,n.getD 2 0))]))
 | .void,n=>if(s.led.notes.length:Int)<=n.getD 0 0 then(7,s) else(0,nU s (s.led.notes.eraseIdx (n.getD 0 0).toNat))
 | .start,n=>if Kw (n.getD 0 0) (n.getD 1 0) 500 2=false then(2,s) else(0,iL s {s.heap with start:=(n.getD 0 0,n.getD 1 0)})
 | .bV,n=>if s.heap.last<n.getD 0 0 then(7,s) else if Kw (n.getD 1 0) (n.getD 2 0) 20 2=false then(2,s)
    else(0,iL s {s.heap with bV:=s.heap.bV.set (n.getD 0 0).toNat (n.getD 1 0,n.getD 2 0)})
 | .turn,n=>if s.heap.last<n.getD 0 0 then(7,s) else if s.heap.turns.contains (n.getD 0 0) then(6,s)
    else(0,iL s {s.heap with turns:=iT s.heap.last fun i=>i==n.getD 0 0 ||s.heap.turns.contains i})
 | .oI,n=>if s.heap.turns.contains (n.getD 0 0)=false then(7,s)
    else(0,iL s {s.heap with turns:=iT s.heap.last fun i=>i !=n.getD 0 0&&s.heap.turns.contains i})
 | .AA,n=>if s.heap.last<n.getD 0 0 then(7,s) else if 1000<n.getD 1 0∨50<n.getD 2 0 then(2,s)
    else if 5<=s.heap.readings.length then(3,s) else(0,iL s {s.heap with readings:=s.heap.readings++[(n.getD 0 0,n.getD 1 0,n.getD 2 0)]})
 | .unread,n=>if(s.heap.readings.length:Int)<=n.getD 0 0 then(7,s) else(0,iL s {s.heap with readings:=s.heap.readings.eraseIdx (n.getD 0 0).toNat})
 | .heap,n=>if Kw (n.getD 0 0) (n.getD 1 0) 100 9=false then(2,s) else if 3<=s.df.heaps.length then(3,s)
    else(0,fK s {s.df with heaps:=s.df.heaps++[(n.getD 0 0,n.getD 1 0)],aU:=s.df.aU.map (· ++[0])})
 | .strong,n=>if(s.df.heaps.length:Int)<=n.getD 0 0 then(7,s) else if Kw (n.getD 1 0) (n.getD 2 0) 100 9=false then(2,s)
    else(0,fK s {s.df with heaps:=s.df.heaps.set (n.getD 0 0).toNat (n.getD 1 0,n.getD 2 0)})
 | .pI,n=>if(s.df.heaps.length:Int)<=n.getD 0 0 then(7,s) else if n.getD 1 0=0∨30<n.getD 1 0 then(2,s)
    else if 3<=s.df.aU.length then(3,s)
    else(0,fK s {s.df with aU:=s.df.aU++[(List.replicate s.df.heaps.length 0).set (n.getD 0 0).toNat (n.getD 1 0)]})
 | .fill,n=>if(s.df.aU.length:Int)<=n.getD 0 0 then(7,s) else if(s.df.heaps.length:Int)<=n.getD 1 0 then(7,s) else if 30<n.getD 2 0 then(2,s)
    else if((s.df.aU.getD (n.getD 0 0).toNat []).set (n.getD 1 0).toNat (n.getD 2 0)).any (fun x=>decide (0<x))=false then(8,s)
    else(0,fK s {s.df with aU:=s.df.aU.set (n.getD 0 0).toNat ((s.df.aU.getD (n.getD 0 0).toNat []).set (n.getD 1 0).toNat (n.getD 2 0))})
 | .zZ,n=>if(s.df.aU.length:Int)<=n.getD 0 0 then(7,s) else if Kw (n.getD 1 0) (n.getD 2 0) 100 100=false then(2,s)
    else if 5<=s.df.aJ.length then(3,s) else(0,fK s {s.df with aJ:=s.df.aJ++[(true,n.getD 0 0,(n.getD 1 0,n.getD 2 0))]})
 | .ui,n=>if(s.df.aJ.length:Int)<=n.getD 0 0 then(7,s) else(0,fK s {s.df with aJ:=s.df.aJ.eraseIdx (n.getD 0 0).toNat})
structure Good (s:jI):Prop where
 rows:3<=s.led.field.rows/\s.led.field.rows<=5
 aK:s.led.field.aK=2
 left:0<=s.led.field.left.1/\s.led.field.left.1<=s.led.field.left.2/\s.led.field.left.2<=s.led.field.rows
 D7:s.led.field.ax.length<=5
 wF: ∀t∈s.led.field.ax,(0<=t.1/\t.1<2)/\(0<=t.2.1/\t.2.1<=t.2.2.1/\t.2.2.1<s.led.field.rows)/\(0<=t.2.2.2.1/\t.2.2.2.1<=t.2.2.2.2/\t.2.2.2.2<=s.led.field.rows)
 rate:1<=s.led.rate/\s.led.rate<=50
 box:0<=s.led.box.1/\s.led.box.1<=s.led.box.2/\s.led.box.2<=2000
 notes:s.led.notes.length<=5
 note: ∀t∈s.led.notes,(0<=t.1/\t.1<2)/\(0<=t.2.1/\t.2.1<=t.2.2/\t.2.2<=2000)
 heap:s.heap.last=4/\s.heap.size=10/\s.heap.aY=50/\s.heap.die=10/\s.heap.tY=60
 start:0<=s.heap.start.1/\s.heap.start.1<=s.heap.start.2/\s.heap.start.2<=500/\s.heap.start.2<=s.heap.start.1+2
 UE:s.heap.bV.length=5
 bV: ∀r∈s.heap.bV,0<=r.1/\r.1<=r.2/\r.2<=20/\r.2<=r.1+2
 turns: ∃p,s.heap.turns=iT 4 p
 reads:s.heap.readings.length<=5
 read: ∀x∈s.heap.readings,(0<=x.1/\x.1<=4)/\(0<=x.2.1/\x.2.1<=1000)/\(0<=x.2.2/\x.2.2<=50)
 SB:1<=s.df.heaps.length/\s.df.heaps.length<=3
 df: ∀r∈s.df.heaps,0<=r.1/\r.1<=r.2/\r.2<=100/\r.2<=r.1+9
 aU:s.df.aU.length<=3
 pI: ∀l∈s.df.aU,l.length=s.df.heaps.length/\(∀x∈l,0<=x/\x<=30)/\0<mf l
 aJ:s.df.aJ.length<=5
 trial: ∀t∈s.df.aJ,t.1=true/\(0<=t.2.1/\t.2.1<s.df.aU.length)/\(0<=t.2.2.1/\t.2.2.1<=t.2.2.2/\t.2.2.2<=100)
theorem GH:Good dX where
 rows:=by decide
 aK:=rfl
 left:=by decide
 D7:=by decide
 wF:=fun _ h=>by cases h
 rate:=by decide
 box:=by decide
 notes:=by decide
 note:=fun _ h=>by cases h
 heap:=by decide
 start:=by decide
 UE:=rfl
 bV:=fun r h=>by obtain rfl:=List.eq_of_mem_replicate h;decide
 turns:=⟨fun _=>false,by decide⟩
 reads:=by decide
 read:=fun _ h=>by cases h
 SB:=by decide
 df:=fun r h=>by obtain rfl:=eY.1 h;decide
 aU:=by decide
 pI:=fun _ h=>by cases h
 aJ:=by decide
 trial:=fun _ h=>by cases h
theorem En {n:List Int} (h: ∀x∈n,0<=x/\x<=9999) (i:Nat):0<=n.getD i 0/\n.getD i 0<=9999:=by
 by_cases hi:i<n.length
 ·rw[ik,dG hi,Option.getD_some];exact h _ (bY hi)
 ·rw[ik,List.getElem?_eq_none (by omega)];exact⟨by decide,by decide⟩
theorem uS {α:Type} {l:List α} {i:Nat} {x y:α} (h:y∈l.set i x):y=x∨y∈l:=by
 rcases List.mem_or_eq_of_mem_set h with h|h
 ·exact .inr h
 ·exact .inl h
theorem aaX {l:List Int} (h: ∀x∈l,0<=x/\x<=30):0<=mf l:=(Eg (by omega) h).1
theorem Mc {l:List Int} (h: ∀x∈l,0<=x/\x<=30):0<mf l↔l.any (fun x=>decide (0<x))=true:=by
 induction l with
 |nil=>simp[mf]
 |cons x l ih=>
  have h1:=h x (by simp)
  have h2:=aaX (l:=l) (fun y hy=>h y (by simp[hy]))
  have h3:=ih (fun y hy=>h y (by simp[hy]))
  rw[List.any_cons,Bool.or_eq_true, <-h3,eH]
  simp only[mf]
  omega
theorem Qa (l:List Int):mf (l++[0])=mf l:=by rw[Md];simp[mf]
theorem xm {a b m:Int}:J4 a b m=true↔a<=b/\b<=m:=by simp[J4]
theorem xA {a b m w:Int}:Kw a b m w=true↔a<=b/\b<=m/\b<=a+w:=by simp[Kw,and_assoc]
theorem mem_erase {α:Type} {l:List α} {i:Nat} {x:α} (h:x∈l.eraseIdx i):x∈l:=List.mem_of_mem_eraseIdx h
theorem yC {α:Type} (l:List α) (i:Nat):(l.eraseIdx i).length<=l.length:=List.length_eraseIdx_le l i
theorem aae {s:jI} (hG:Good s) (c:jZ) {n:List Int} (hn: ∀x∈n,0<=x/\x<=9999) (h0:(jb s c n).1=0):Good (jb s c n).2:=by
 have n0:=En hn 0
 have n1:=En hn 1
 have n2:=En hn 2
 have n3:=En hn 3
 cases c <;>simp only[jb] at h0⊢
 case row=>
  split at h0 <;>first|omega|skip
  rename_i h1
  rw[ak h1]
  have:=hG.rows;have:=hG.left
  exact {hG with rows:=by simp only;omega,left:=by simp only;omega,wF:=fun t ht=>by have:=hG.wF t ht;simp only at*;omega}
 case left=>
  split at h0 <;>first|omega|skip
  rename_i h1
  rw[ak h1]
  rw[Bool.not_eq_false,xm] at h1
  exact {hG with left:=by simp only;omega}
 case tally=>
  repeat' (split at h0;· omega)
  rename_i h1 h2 h3 h4 h5
  rw[ak h1,ak h2,ak h3,ak h4,ak h5]
  rw[Bool.not_eq_false,xm] at h4
  have hw:=hG.aK
  refine {hG with D7:=by simp[mP];omega,wF:=fun t ht=>?_}
  rcases iK.1 ht with ht|ht
  ·exact hG.wF t ht
  ·obtain rfl:=eY.1 ht
   simp only[mP];omega
 case zY=>
  repeat' (split at h0;· omega)
  rename_i h1 h2
  rw[ak h1,ak h2]
  rw[Bool.not_eq_false,xm] at h2
  refine {hG with D7:=by simp[mP];exact hG.D7,wF:=fun t ht=>?_}
  rcases uS ht with rfl|ht
  ·have hk:(n.getD 0 0).toNat<s.led.field.ax.length:=by omega
   have:=hG.wF _ (bY hk)
   rw[ik (l:=s.led.field.ax),dG hk,Option.getD_some]
   simp only[mP];omega
  ·exact hG.wF t ht
 case lW=>
  repeat' (split at h0;· omega)
  rename_i h1
  rw[ak h1]
  exact {hG with D7:=ja (yC _ _) hG.D7,wF:=fun t ht=>hG.wF t (mem_erase ht)}
 case rate=>
  repeat' (split at h0;· omega)
  rename_i h1
  rw[ak h1]
  exact {hG with rate:=by simp only;omega}
 case box=>
  repeat' (split at h0;· omega)
  rename_i h1
  rw[ak h1]
  rw[Bool.not_eq_false,xm] at h1
  exact {hG with box:=by simp only;omega}
 case note=>
  repeat' (split at h0;· omega)
  rename_i h1 h2 h3
  rw[ak h1,ak h2,ak h3]
  rw[Bool.not_eq_false,xm] at h2
  have hw:=hG.aK
  refine {hG with notes:=by simp[nU];omega,note:=fun t ht=>?_}
  rcases iK.1 ht with ht|ht
  ·exact hG.note t ht
  ·obtain rfl:=eY.1 ht
   simp only;omega
 case void=>
  repeat' (split at h0;· omega)
  rename_i h1
  rw[ak h1]
  exact {hG with notes:=ja (yC _ _) hG.notes,note:=fun t ht=>hG.note t (mem_erase ht)}
 case start=>
  repeat' (split at h0;· omega)
  rename_i h1
  rw[ak h1]
  rw[Bool.not_eq_false,xA] at h1
  exact {hG with start:=by simp only[iL];omega}
 case bV=>
  repeat' (split at h0;· omega)
  rename_i h1 h2
  rw[ak h1,ak h2]
  rw[Bool.not_eq_false,xA] at h2
  refine {hG with UE:=by simp[iL];exact hG.UE,bV:=fun r hr=>?_}
  rcases uS hr with rfl|hr
  ·simp only;omega
  ·exact hG.bV r hr
 case turn=>
  repeat' (split at h0;· omega)
  rename_i h1 h2
  rw[ak h1,ak h2]
  exact {hG with turns:=⟨_,by simp only[iL,hG.heap.1];rfl⟩}
 case oI=>
  repeat' (split at h0;· omega)
  rename_i h1
  rw[ak h1]
  exact {hG with turns:=⟨_,by simp only[iL,hG.heap.1];rfl⟩}
 case AA=>
  repeat' (split at h0;· omega)
  rename_i h1 h2 h3
  rw[ak h1,ak h2,ak h3]
  have hl:=hG.heap.1
  refine {hG with reads:=by simp[iL];omega,read:=fun t ht=>?_}
  rcases iK.1 ht with ht|ht
  ·exact hG.read t ht
  ·obtain rfl:=eY.1 ht
   simp only;omega
 case unread=>
  repeat' (split at h0;· omega)
  rename_i h1
  rw[ak h1]
  exact {hG with reads:=ja (yC _ _) hG.reads,read:=fun t ht=>hG.read t (mem_erase ht)}
 case heap=>
  repeat' (split at h0;· omega)
  rename_i h1 h2
  rw[ak h1,ak h2]
  rw[Bool.not_eq_false,xA] at h1
  refine {hG with SB:=by simp[fK];omega,df:=fun r hr=>?_,aU:=by simp[fK];exact hG.aU,pI:=fun l hl=>?_,trial:=fun t ht=>?_}
  ·rcases iK.1 hr with hr|hr
   ·exact hG.df r hr
   ·obtain rfl:=eY.1 hr
    simp only;omega
  ·obtain⟨m,hm,rfl⟩:=iW.1 hl
   have:=hG.pI m hm
   refine⟨by simp[fK,this.1],fun x hx=>?_,by rw[Qa];exact this.2.2⟩
   rcases iK.1 hx with hx|hx
   ·exact this.2.1 x hx
   ·obtain rfl:=eY.1 hx;decide
  ·have:=hG.trial t ht
   simp only[fK,lU]
   exact this
 case strong=>
  repeat' (split at h0;· omega)
  rename_i h1 h2
  rw[ak h1,ak h2]
  rw[Bool.not_eq_false,xA] at h2
  refine {hG with SB:=by simp[fK];exact hG.SB,df:=fun r hr=>?_,pI:=fun l hl=>by simp[fK];exact hG.pI l hl}
  rcases uS hr with rfl|hr
  ·simp only;omega
  ·exact hG.df r hr
 case pI=>
  repeat' (split at h0;· omega)
  rename_i h1 h2 h3
  rw[ak h1,ak h2,ak h3]
  have hk:(n.getD 0 0).toNat<s.df.heaps.length:=by omega
  have hx: ∀x∈(List.replicate s.df.heaps.length (0:Int)).set (n.getD 0 0).toNat (n.getD 1 0),0<=x/\x<=30:=fun x hx=>by
   rcases uS hx with rfl|hx
   ·omega
   ·obtain rfl:=List.eq_of_mem_replicate hx;decide
  refine {hG with aU:=by simp[fK];omega,pI:=fun l hl=>?_,trial:=fun t ht=>?_}
  ·rcases iK.1 hl with hl|hl
   ·exact hG.pI l hl
   ·obtain rfl:=eY.1 hl
    refine⟨by simp[fK],hx,(Mc hx).2 ?_⟩
    rw[List.any_eq_true]
    exact⟨n.getD 1 0,List.mem_iff_getElem.2 ⟨(n.getD 0 0).toNat,by simpa using hk,List.getElem_set_self _⟩,decide_eq_true (by omega)⟩
  ·have:=hG.trial t ht
   simp only[fK,dm,List.length_singleton]
   exact⟨this.1,by omega,this.2.2⟩
 case fill=>
  repeat' (split at h0;· omega)
  rename_i h1 h2 h3 h4
  rw[ak h1,ak h2,ak h3,ak h4]
  have hk:(n.getD 0 0).toNat<s.df.aU.length:=by omega
  have hb:=hG.pI _ (bY hk)
  rw[ik (l:=s.df.aU),dG hk,Option.getD_some] at h4⊢
  have hx: ∀x∈s.df.aU[(n.getD 0 0).toNat].set (n.getD 1 0).toNat (n.getD 2 0),0<=x/\x<=30:=fun x hx=>by
   rcases uS hx with rfl|hx
   ·omega
   ·exact hb.2.1 x hx
  refine {hG with aU:=by simp[fK];exact hG.aU,pI:=fun l hl=>?_,trial:=fun t ht=>?_}
  ·rcases uS hl with rfl|hl
   ·exact⟨by rw[pY];exact hb.1,hx,(Mc hx).2 (by simpa using h4)⟩
   ·exact hG.pI l hl
  ·have:=hG.trial t ht
   simp only[fK,pY]
   exact this
 case zZ=>
  repeat' (split at h0;· omega)
  rename_i h1 h2 h3
  rw[ak h1,ak h2,ak h3]
  rw[Bool.not_eq_false,xA] at h2
  refine {hG with aJ:=by simp[fK];omega,trial:=fun t ht=>?_}
  rcases iK.1 ht with ht|ht
  ·exact hG.trial t ht
  ·obtain rfl:=eY.1 ht
   exact⟨rfl,by simp only[fK];omega,by simp only;omega⟩
 case ui=>
  repeat' (split at h0;· omega)
  rename_i h1
  rw[ak h1]
  exact {hG with aJ:=ja (yC _ _) hG.aJ,trial:=fun t ht=>hG.trial t (mem_erase ht)}
end Go.Proofs.YthbpmepjmebolaaGreatDoor.Bk
end
section
namespace Go.Proofs.YthbpmepjmebolaaGreatDoor.Bk
open ji Go.Lib
abbrev Jw (k:Nat):UInt8:=UInt8.ofNat (48+k)
theorem um {k:Nat} (h:k<10):(Jw k).toNat=48+k:=by simp[Jw];omega
theorem V9 {k:Nat} (h:k<10):iE (Jw k)=true:=by
 simp only[iE,um h,eU,eH];omega
theorem aeb {k:Nat} (h:k<10) (h1:1<=k):Jw k≠48:=fun e=>by
 have:=congrArg UInt8.toNat e
 rw[um h] at this
 have h2:(48:UInt8).toNat=48:=by decide
 omega
theorem ZH {c:UInt8} (h:iE c=true): ∃k,k<10/\c=Jw k:=by
 simp only[iE,eU,eH] at h
 refine⟨c.toNat-48,by omega,?_⟩
 apply UInt8.toNat_inj.1
 rw[um (by omega)]
 omega
theorem mJ {u:Nat} (h:u<10):decDigits u=[Jw u]:=by rw[decDigits,dif_pos h]
theorem xW {u:Nat} (h: ¬u<10):decDigits u=decDigits (u/10)++[Jw (u%10)]:=by rw[decDigits,dif_neg h]
theorem ZO: ∀u, ∀c∈decDigits u, ∃k,k<10/\c=Jw k:=by
 intro u
 induction u using Nat.strongRecOn with
 |_ u ih=>
  intro c hc
  by_cases h:u<10
  ·rw[mJ h] at hc
   obtain rfl:=eY.1 hc
   exact⟨u,h,rfl⟩
  ·rw[xW h] at hc
   rcases iK.1 hc with hc|hc
   ·exact ih _ (by omega) c hc
   ·obtain rfl:=eY.1 hc
    exact⟨u%10,by omega,rfl⟩
theorem ZN (u:Nat):1<=(decDigits u).length:=by
 by_cases h:u<10
 ·rw[mJ h];exact ai _
 ·rw[xW h];simp
theorem yl (s:aH) (c:UInt8):pG (s++[c])=10*pG s+((c.toNat:Int)-48):=by unfold pG;rw[List.foldl_append];rfl
theorem aaL (u:Nat):pG (decDigits u)=u:=by
 induction u using Nat.strongRecOn with
 |_ u ih=>
  by_cases h:u<10
  ·rw[mJ h]
   show 10*(0:Int)+(((Jw u).toNat:Int)-48)=u
   rw[um h];omega
  ·rw[xW h,yl,ih _ (by omega),um (by omega)]
   omega
theorem RS: ∀(k u:Nat),u<10^(k+1)->(decDigits u).length<=k+1:=by
 intro k
 induction k with
 |zero=>intro u h;rw[mJ (by omega)];exact ai _
 |succ k ih=>
  intro u h
  by_cases hu:u<10
  ·rw[mJ hu];simp
  ·rw[xW hu,dm]
   have:=ih (u/10) (by rw[Nat.pow_succ] at h;omega)
   simp only[List.length_singleton]
   omega
theorem ahf (u:Nat):u<10^(decDigits u).length:=by
 induction u using Nat.strongRecOn with
 |_ u ih=>
  by_cases h:u<10
  ·rw[mJ h];simpa using h
  ·rw[xW h,dm,List.length_singleton,Nat.pow_succ]
   have:=ih (u/10) (by omega)
   omega
theorem abR {u:Nat} (h1:1<=u):(decDigits u).headD 0≠48:=by
 induction u using Nat.strongRecOn with
 |_ u ih=>
  by_cases h:u<10
  ·rw[mJ h];exact aeb h h1
  ·rw[xW h]
   have h2:=ih (u/10) (by omega) (by omega)
   have h3:=ZN (u/10)
   cases hd:decDigits (u/10) with
   |nil=>rw[hd] at h3;simp at h3
   |cons a l=>rw[hd] at h2;exact h2
theorem aa7 {u:Nat} (h:u<10000):kT (decDigits u)=some (u:Int):=by
 have h1:=ZN u
 have h2:=RS 3 u (by simpa using h)
 have h3:(decDigits u).all iE=true:=by
  rw[jJ]
  intro c hc
  obtain⟨k,hk,rfl⟩:=ZO u c hc
  exact V9 hk
 unfold kT
 rw[aC,aaL]
 unfold yX
 rw[h3,decide_eq_true h1,decide_eq_true h2]
 by_cases hu:u=0
 ·subst hu;rw[mJ (by omega)];decide
 ·rw[decide_eq_true (abR (u:=u) (by omega))];rfl
theorem abQ: ∀(k:Nat) (s:aH),s.length=k+1->s.all iE=true->(s.headD 0≠48∨s.length=1)->decDigits (pG s).toNat=s:=by
 intro k
 induction k with
 |zero=>
  intro s hl hd _
  obtain⟨c,rfl⟩:=List.length_eq_one_iff.1 hl
  have hc:iE c=true:=by simpa using hd
  obtain⟨j,hj,rfl⟩:=ZH hc
  show decDigits (10*(0:Int)+(((Jw j).toNat:Int)-48)).toNat=_
  rw[um hj,show(10*(0:Int)+(((48+j:Nat):Int)-48)).toNat=j from by omega,mJ hj]
 |succ k ih=>
  intro s hl hd hh
  obtain⟨t,c,rfl⟩: ∃t c,s=t++[c]:=by
   rcases List.eq_nil_or_concat s with rfl|⟨t,c,rfl⟩
   ·simp at hl
   ·exact⟨t,c,by simp⟩
  have hl':t.length=k+1:=by simpa using hl
  rw[List.all_append,eU] at hd
  have hc:iE c=true:=by simpa using hd.2
  obtain⟨j,hj,rfl⟩:=ZH hc
  have hne:t.headD 0≠48:=by
   rcases hh with hh|hh
   ·cases t with
    |nil=>simp at hl'
    |cons a t=>exact hh
   ·rw[hl] at hh;omega
  have h1:=ih t hl' hd.1 (.inl hne)
  have hb:=JO t 0 (by omega) hd.1
  have hpos:1<=pG t:=by
   have hnn:0<=pG t:=by unfold pG;omega
   by_cases hz:pG t=0
   ·rw[hz] at h1
    have h48:decDigits (0:Int).toNat=[48]:=by rw[show(0:Int).toNat=0 from rfl,mJ (by omega)];rfl
    rw[h48] at h1
    rw[<-h1] at hne
    exact absurd rfl hne
   ·omega
  rw[yl,um hj,xW (by omega)]
  rw[show(10*pG t+(((48+j:Nat):Int)-48)).toNat/10=(pG t).toNat from by omega,show(10*pG t+(((48+j:Nat):Int)-48)).toNat%10=j from by omega,h1]
theorem Eh {s:aH} {v:Int} (h:kT s=some v):s=decDigits v.toNat/\s.length<=4:=by
 unfold kT at h
 split at h
 ·rename_i hf
  obtain rfl:=jw h
  simp only[yX,eU,Bool.or_eq_true,eH] at hf
  obtain⟨⟨⟨h1,h2⟩,h3⟩,h4⟩:=hf
  exact⟨(abQ (s.length-1) s (by omega) h4 h3).symm,h2⟩
 ·cases h
theorem Ol {c:UInt8} (h:iE c=true):digitVal c=some (c.toNat-48):=by
 simp only[iE,eU,eH] at h
 unfold digitVal
 rw[aC h]
theorem RQ: ∀(s:aH) (acc:Nat),s.all iE=true-> ∃m:Nat,decFrom acc s=some m/\(m:Int)=s.foldl (fun n c=>10*n+((c.toNat:Int)-48)) (acc:Int):=by
 intro s
 induction s with
 |nil=>intro acc _;exact⟨acc,rfl,rfl⟩
 |cons c s ih=>
  intro acc h
  rw[List.all_cons,eU] at h
  obtain⟨m,h1,h2⟩:=ih (acc*10+(c.toNat-48)) h.2
  have hd:=h.1
  simp only[iE,eU,eH] at hd
  refine⟨m,by rw[decFrom,Ol h.1];exact h1,?_⟩
  rw[h2,List.foldl_cons]
  congr 1
  omega
theorem Dx {s:aH} {v:Int} (h:kT s=some v):atoi s=some v:=by
 unfold kT at h
 split at h
 ·rename_i hf
  obtain rfl:=jw h
  simp only[yX,eU,Bool.or_eq_true,eH] at hf
  obtain⟨⟨⟨h1,h2⟩,h3⟩,h4⟩:=hf
  cases s with
  |nil=>simp at h1
  |cons c s=>
   have hd:=h4
   rw[List.all_cons,eU] at hd
   have hc:=hd.1
   simp only[iE,eU,eH] at hc
   have n45:(c==45)=false:=by
    rw[jy];rintro rfl;revert hc;decide
   have n43:(c==43)=false:=by
    rw[jy];rintro rfl;revert hc;decide
   obtain⟨m,e1,e2⟩:=RQ (c::s) 0 h4
   have e3:atoi (c::s)=(decNat (c::s)).map fun(m:Nat)=>(m:Int):=by
    simp only[atoi,n45,n43,Bool.false_eq_true,if_false]
   rw[e3]
   unfold decNat
   rw[ak (by simp),e1]
   exact congrArg some e2
 ·cases h
theorem Nr {s:aH} {v:Int} (h0:0<=v) (hl:s.length<=4) (he:itoa v=s):kT s=some v:=by
 unfold itoa at he
 rw[ak (by omega)] at he
 have h1:=ahf v.toNat
 rw[he] at h1
 have h2:v.toNat<10000:=gy h1 (by
  have:=Nat.pow_le_pow_right (show 0<10 by omega) hl
  simpa using this)
 have:=aa7 h2
 rw[he] at this
 rw[this]
 congr 1
 omega
theorem YU {s:aH} {v:Int} (h:kT s=some v):itoa v=s:=by
 unfold itoa
 have:=(Kr h).1
 rw[ak (by omega)]
 exact(Eh h).1.symm
end Go.Proofs.YthbpmepjmebolaaGreatDoor.Bk
end
section
namespace Go.Proofs.YthbpmepjmebolaaGreatDoor.Bk
open ji Go.Lib Go.Proofs.YthbpmepjmebolaaGreatDoor.yR
section
variable (st : jI → Int)
def wI (s:jI) (line:aH):jI×Int:=
 match pJ line with
 |none=>(s,4)
 |some (c,n)=>if(jb s c n).1≠0 then(s,(jb s c n).1) else if st (jb s c n).2≠0 then(s,st (jb s c n).2) else((jb s c n).2,0)
def fJ:jI->List aH->jI×List Int
 |s,[]=>(s,[])
 |s,l::ls=>((fJ (wI st s l).1 ls).1,(wI st s l).2::(fJ (wI st s l).1 ls).2)
variable {st}
theorem Ba {s:jI} {line:aH} (h:pJ line=none):wI st s line=(s,4):=by unfold wI;rw[h]
theorem A8 {s:jI} {line:aH} {c:jZ} {n:List Int} (h:pJ line=some (c,n)):
 wI st s line=if(jb s c n).1≠0 then(s,(jb s c n).1) else if st (jb s c n).2≠0 then(s,st (jb s c n).2) else((jb s c n).2,0):=by unfold wI;rw[h]
theorem acM {s:jI} {line:aH} (h:(wI st s line).2=0): ∃c n,pJ line=some (c,n)/\(jb s c n).1=0/\st (jb s c n).2=0/\wI st s line=((jb s c n).2,0):=by
 cases hp:pJ line with
 |none=>rw[Ba hp] at h;cases h
 |some x=>
  obtain⟨c,n⟩:=x
  rw[A8 hp] at h⊢
  split at h
  ·rename_i h1;exact absurd h h1
  ·rename_i h1
   split at h
   ·rename_i h2;exact absurd h h2
   ·rename_i h2
    rw[ak h1,ak h2]
    exact⟨c,n,rfl,by simpa using h1,by simpa using h2,rfl⟩
theorem acN {s:jI} {line:aH} (h:(wI st s line).2≠0):(wI st s line).1=s:=by
 cases hp:pJ line with
 |none=>rw[Ba hp]
 |some x=>
  obtain⟨c,n⟩:=x
  rw[A8 hp] at h⊢
  split
  ·rfl
  ·rename_i h1
   split
   ·rfl
   ·rename_i h2
    rw[ak h1,ak h2] at h
    exact absurd rfl h
theorem abO {s:jI} (hG:Good s) (line:aH):Good (wI st s line).1:=by
 by_cases h:(wI st s line).2=0
 ·obtain⟨c,n,h1,h2,_,h4⟩:=acM h
  rw[h4]
  exact aae hG c (rZ h1).2.2.1 h2
 ·rw[acN h];exact hG
theorem V7 {s:jI} (hs:st s=0) (line:aH):st (wI st s line).1=0:=by
 by_cases h:(wI st s line).2=0
 ·obtain⟨c,n,_,_,h3,h4⟩:=acM h
  rw[h4];exact h3
 ·rw[acN h];exact hs
theorem IU: ∀(ls:List aH) {s:jI},Good s->Good (fJ st s ls).1:=by
 intro ls
 induction ls with
 |nil=>intro s h;exact h
 |cons l ls ih=>intro s h;exact ih (abO h l)
theorem MW: ∀(ls:List aH) {s:jI},st s=0->st (fJ st s ls).1=0:=by
 intro ls
 induction ls with
 |nil=>intro s h;exact h
 |cons l ls ih=>intro s h;exact ih (V7 h l)
theorem Yk: ∀(ls:List aH) (s:jI),(fJ st s ls).2.length=ls.length:=by
 intro ls
 induction ls with
 |nil=>intro s;rfl
 |cons l ls ih=>intro s;simp[fJ,ih]
theorem Yl: ∀(a b:List aH) (s:jI),fJ st s (a++b)=((fJ st (fJ st s a).1 b).1,(fJ st s a).2++(fJ st (fJ st s a).1 b).2):=by
 intro a
 induction a with
 |nil=>intro b s;rfl
 |cons x a ih=>intro b s;simp only[List.cons_append,fJ,ih]
theorem U5 (ls:List aH) (l:aH) (s:jI):fJ st s (ls++[l])=((wI st (fJ st s ls).1 l).1,(fJ st s ls).2++[(wI st (fJ st s ls).1 l).2]):=by
 rw[Yl];rfl
end
end Go.Proofs.YthbpmepjmebolaaGreatDoor.Bk
end
section
namespace Go.Proofs.YthbpmepjmebolaaGreatDoor.Bk
open ji Go.Lib Go.Proofs.YthbpmepjmebolaaGreatDoor.yR
theorem yA {last:Int} {p:Int->Bool} {i:Int}:i∈iT last p↔(0<=i/\i<=last)/\p i=true:=by
 unfold iT
 rw[List.mem_filter,iW]
 constructor
 ·rintro⟨⟨k,hk,rfl⟩,hp⟩
  have:=lT.1 hk
  exact⟨by omega,hp⟩
 ·rintro⟨h,hp⟩
  exact⟨⟨i.toNat,lT.2 (by omega),by omega⟩,hp⟩
variable {st : jI → Int}
end Go.Proofs.YthbpmepjmebolaaGreatDoor.Bk
end
section
namespace Go.Proofs.YthbpmepjmebolaaGreatDoor.Bk
open Go.RowKit Go.RG Go.SL Go.Shelf ji Go.TB
def dE (l:List Bool):List Value:=l.map fun b=> .bool b
abbrev BA (w:World) (v:Value) (l:List Bool):Prop:=aP 1 w v l.length (dE l)
theorem BA.cell {w:World} {o:Option Addr} {n c:Nat} {l:List Bool} (h:aP 1 w (.slice o n c) n (dE l)) {k:Nat} (hk:k<l.length): ∃b off,o=some ⟨b,off,none⟩/\b<w.heap.size/\w.cell? ⟨b,off+k,none⟩=some (.bool l[k]):=by
 obtain⟨hl,o',c',hv,h1,h2,h3,h4⟩:=h
 cases hv
 have hlen:(dE l).length=l.length:=by simp[dE]
 cases o with
 |none=>have:=h3 rfl;omega
 |some a=>
  obtain⟨b,off,sp⟩:=a
  obtain⟨hs,hc⟩:=h4 _ rfl
  simp only at hs hc
  subst hs
  have h0:=hc k (.bool l[k]) (by simp[dE,hk])
  exact⟨b,off,rfl,dF w _ h0,h0⟩
theorem Ii (l:List Bool) (v:Value) (w:World) (hv:BA w v l):Calls Tryz.prog 197 #[v,.bool true] w (PV (.bool (l.contains true)) w):=by
 have hidx:Calls Tryz.prog 263 #[v,.bool true] w (fun e w'=>w=w'/\((l.contains true=true/\ ∃k:Nat,k<l.length/\e= .returned (iv k))∨(l.contains true=false/\e= .returned (iv (-1))))):=by
  have hlen:=aP.len hv
  obtain⟨o,c,rfl⟩:=aP.open hv
  have HV:=ae hv
  clear hv
  go_enter Tryz.func263,Tryz.ntmps263
  go_wp2
  go_loop [4,5,8] (fun _ _ i=> ∃k:Nat,k<=l.length/\i= .int .i64 k/\(∀j (hj:j<l.length),j<k->l[j]=false)) (fun _ _ i=>l.length-(intOf i).toNat)
  case atStart=>exact⟨0,bW _,rfl,fun j _ hj=>by omega⟩
  case round=>
   obtain⟨k,hk,rfl,hno⟩:=hrel
   have HN:=ae hno
   clear hno
   by_cases hlt:k<l.length
   ·obtain⟨b,off,rfl,hb,hc0⟩:=BA.cell HV.o hlt
    cases he:l[k]
    ·rw[he] at hc0
     have HE:=ae he
     clear he
     go_wp2
     go_round
     case rel=>exact⟨k+1,by omega,by go_num,fun j hj hjk=>(by by_cases e:j=k;(subst e;exact HE.o);exact HN.o j hj (by omega))⟩
     case measure=>simp[intOf];omega
    ·rw[he] at hc0
     have HE:=ae he
     clear he
     go_wp2
     go_returns
     exact⟨rfl,.inl ⟨by first|exact HE.o▸bY hlt|(rw[List.contains_iff_mem, <-HE.o];exact bY _),k,hlt,by simp⟩⟩
   ·have hkl:k=l.length:=by omega
    go_wp2
    go_returns
    refine⟨rfl,.inr ⟨?_,by simp⟩⟩
    (try rw[<-Bool.not_eq_true,List.contains_iff_mem])
    intro hm
    obtain⟨j,hj,e⟩:=lV hm
    have:=HN.o j hj (by omega)
    rw[this] at e
    cases e
 have HI:=ae hidx
 clear hidx
 go_enter Tryz.func197,Tryz.ntmps197
 go_wp2_with fail
 refine HI.o.mono ?_
 rintro e w' ⟨rfl,⟨hc,k,hk,rfl⟩|⟨hc,rfl⟩⟩
 ·have HC:=ae hc
  clear hc
  go_wp2_with fail
  go_returns
  exact⟨by rw[HC.o];simp,aG _ _⟩
 ·have HC:=ae hc
  clear hc
  go_wp2_with fail
  go_returns
  exact⟨by rw[HC.o];simp,aG _ _⟩
abbrev jW (code:Int):List PanicEntry:=[{v:= .iface 200 (.agg #[iv code]),recovered:=false}]
def SY (code:Int) (c:Bool) (w:World) (e:Ending) (w':World):Prop:=
 Below w.heap.size w w'/\((c=false/\e= .returned (.tuple #[]))∨(c=true/\e= .panicked (jW code)))
theorem Qj (code:Int) (l:List Bool) (v:Value) (w:World) (hv:BA w v l):Calls Tryz.prog 112 #[iv code,v] w (SY code (l.contains true) w):=by
 have H:=ae (Ii l v w hv)
 obtain⟨o,c,rfl⟩:=aP.open hv
 clear hv
 cases hq:l.contains true
 ·rw[hq] at H
  clear hq
  go_enter Tryz.func112,Tryz.ntmps112
  go_wp2_with fail
  refine H.o.mono ?_
  rintro e w' ⟨rfl,hb⟩
  go_wp2_with fail
  go_end0
  exact⟨hb,.inl ⟨rfl,by simp⟩⟩
 ·rw[hq] at H
  clear hq
  go_enter Tryz.func112,Tryz.ntmps112
  go_wp2_with fail
  refine H.o.mono ?_
  rintro e w' ⟨rfl,hb⟩
  go_wp2_with fail
  exact⟨rfl,hb,.inr ⟨rfl,rfl⟩⟩
def gB:jZ->Nat
 | .row=>176
 | .left=>177
 | .tally=>178
 | .zY=>179
 | .lW=>180
 | .rate=>181
 | .box=>182
 | .note=>183
 | .void=>184
 | .start=>185
 | .bV=>186
 | .turn=>187
 | .oI=>188
 | .AA=>189
 | .unread=>190
 | .heap=>191
 | .strong=>192
 | .pI=>193
 | .fill=>194
 | .zZ=>195
 | .ui=>196
abbrev WE:=Nat×Nat
abbrev wev (e:WE):Value:= .agg #[iv e.1,.func (.func e.2) #[] #[]]
abbrev UL (s:ByteArray):Value:= .string s
abbrev gW (c:jZ):ByteArray:=⟨c.word.toArray⟩
def P8:List (ByteArray×WE):=Ls.map fun c=>(gW c,(c.many,gB c))
theorem YO (s:ByteArray): ∀l:List jZ,TB.look s (l.map fun c=>(gW c,(c.many,gB c)))=(l.find? fun c=>c.word==s.data.toList).map fun c=>(c.many,gB c):=by
 intro l
 induction l with
 |nil=>rfl
 |cons c l ih=>
  rw[List.map_cons,TB.look,List.find?_cons,ih]
  by_cases h:s=gW c
  ·subst h
   have:(c.word==(gW c).data.toList)=true:=by simp[gW]
   rw[aC rfl,this]
   rfl
  ·have:(c.word==s.data.toList)=false:=by
    rw[jy]
    intro e
    refine h ?_
    cases s with
    |mk a=>simp only[gW] at*;rw[e]
   rw[ak h,this]
theorem YN (s:ByteArray):TB.look s P8=(sQ s.data.toList).map fun c=>(c.many,gB c):=YO s Ls
theorem Jt (k:TypeId) (hk:Tryz.prog.underlying k=some .string) (a b:ByteArray) (w:World):(Op.equal k (.string a) (.string b)).run Tryz.prog w= .ok (decide (a=b)) w:=by
 unfold Op.equal Op.maxDepth
 simp only[go_sem,hk]
 rw[show(a.toList==b.toList)=decide (a=b) from by rw[Bool.eq_iff_iff,Lib.bytes_beq_iff,eH]]
theorem QE (k:TypeId) (hk:Tryz.prog.underlying k=some .string) (x:Value) (w:World): ∀(es:List MapEntry) (i:Nat) (r:Option (Nat×Value)),Instr.findNow .string x es i=some r->(Instr.findAsking k x es i).run Tryz.prog w= .ok r w:=by
 intro es
 induction es with
 |nil=>intro i r h;simp only[Instr.findNow,Option.some.injEq] at h;subst h;rfl
 |cons e es ih=>
  intro i r h
  unfold Instr.findNow at h
  cases hs:Instr.sameNow .string x e.key with
  |none=>rw[hs] at h;cases h
  |some b=>
   rw[hs] at h
   obtain⟨a,c,hx,hc,hb⟩: ∃a c:ByteArray,x= .string a/\e.key= .string c/\b=decide (a=c):=by
    revert hs
    cases x <;>cases e.key <;>simp[Instr.sameNow]
    rename_i a c
    intro h
    rw[<-h]
    rw[Bool.eq_iff_iff,Go.MapKept.bytes_beq,eH]
   subst hx
   conv=>lhs;unfold Instr.findAsking
   simp only[Sem.run_bind,hc,Jt k hk a c w,Result.andThen_ok]
   cases b
   ·rw[<-hb]
    simp only[Bool.false_eq_true,if_false]
    exact ih (i+1) r h
   ·rw[<-hb]
    simp only[Option.some.injEq] at h
    subst h
    simp
theorem tJ:Xe Tryz.prog 9 UL (fun _=>True) where
 find w x es:=by
  have hk:Tryz.prog.underlying 9=some .string:=by kernel_rfl
  cases hn:Instr.findNow .string x es 0 with
  |none=>simp[Instr.findKey,run_underlying hk,hn]
  |some r=>
   rw[QE 9 hk x w es 0 r hn]
   simp[Instr.findKey,run_underlying hk,hn]
 check b a w _:=by
  unfold Instr.checkKey
  simp[go_sem]
 eq a b w _ _:=Jt _ (by kernel_rfl) a b w
 bits a _:=by simp only[Instr.sameBits];exact(Go.MapKept.bytes_beq a a).2 rfl
theorem aaR:TB.store (gW .ui) (jZ.many .ui,gB .ui) (TB.store (gW .zZ) (jZ.many .zZ,gB .zZ) (TB.store (gW .fill) (jZ.many .fill,gB .fill) (TB.store (gW .pI) (jZ.many .pI,gB .pI) (TB.store (gW .strong) (jZ.many .strong,gB .strong) (TB.store (gW .heap) (jZ.many .heap,gB .heap) (TB.store (gW .unread) (jZ.many .unread,gB .unread) (TB.store (gW .AA) (jZ.many .AA,gB .AA) (TB.store (gW .oI) (jZ.many .oI,gB .oI) (TB.store (gW .turn) (jZ.many .turn,gB .turn) (TB.store (gW .bV) (jZ.many .bV,gB .bV) (TB.store (gW .start) (jZ.many .start,gB .start) (TB.store (gW .void) (jZ.many .void,gB .void) (TB.store (gW .note) (jZ.many .note,gB .note) (TB.store (gW .box) (jZ.many .box,gB .box) (TB.store (gW .rate) (jZ.many .rate,gB .rate) (TB.store (gW .lW) (jZ.many .lW,gB .lW) (TB.store (gW .zY) (jZ.many .zY,gB .zY) (TB.store (gW .tally) (jZ.many .tally,gB .tally) (TB.store (gW .left) (jZ.many .left,gB .left) (TB.store (gW .row) (jZ.many .row,gB .row) ([])))))))))))))))))))))=P8:=by
 decide+kernel
def aer (w:World) (e:Ending) (w':World):Prop:= ∃mb,e= .returned (.map (some mb))/\w.heap.size<=mb/\TabAt UL wev (fun _=>True) w' mb P8/\Below w.heap.size w w'
theorem UC (w:World):Calls Tryz.prog 111 #[] w (aer w):=by
 have hmm:= @run_makeMap Tryz.prog
 have hm:Tryz.prog.underlying 206=some (.map 9 204):=by kernel_rfl
 have h0:TabAt UL wev (fun _=>True) (w.alloc (.map #[] 0)) w.heap.size []:=Kv (ay _ _)
 obtain⟨W1,r1,t1,e1⟩:=fO tJ hm h0 (gW .row) trivial (jZ.many .row,gB .row)
 obtain⟨W2,r2,t2,e2⟩:=fO tJ hm t1 (gW .left) trivial (jZ.many .left,gB .left)
 obtain⟨W3,r3,t3,e3⟩:=fO tJ hm t2 (gW .tally) trivial (jZ.many .tally,gB .tally)
 obtain⟨W4,r4,t4,e4⟩:=fO tJ hm t3 (gW .zY) trivial (jZ.many .zY,gB .zY)
 obtain⟨W5,r5,t5,e5⟩:=fO tJ hm t4 (gW .lW) trivial (jZ.many .lW,gB .lW)
 obtain⟨W6,r6,t6,e6⟩:=fO tJ hm t5 (gW .rate) trivial (jZ.many .rate,gB .rate)
 obtain⟨W7,r7,t7,e7⟩:=fO tJ hm t6 (gW .box) trivial (jZ.many .box,gB .box)
 obtain⟨W8,r8,t8,e8⟩:=fO tJ hm t7 (gW .note) trivial (jZ.many .note,gB .note)
 obtain⟨W9,r9,t9,e9⟩:=fO tJ hm t8 (gW .void) trivial (jZ.many .void,gB .void)
 obtain⟨SN,r10,t10,e10⟩:=fO tJ hm t9 (gW .start) trivial (jZ.many .start,gB .start)
 obtain⟨W11,r11,t11,e11⟩:=fO tJ hm t10 (gW .bV) trivial (jZ.many .bV,gB .bV)
 obtain⟨Xy,r12,t12,e12⟩:=fO tJ hm t11 (gW .turn) trivial (jZ.many .turn,gB .turn)
 obtain⟨W13,r13,t13,e13⟩:=fO tJ hm t12 (gW .oI) trivial (jZ.many .oI,gB .oI)
 obtain⟨Uo,r14,t14,e14⟩:=fO tJ hm t13 (gW .AA) trivial (jZ.many .AA,gB .AA)
 obtain⟨WW,r15,t15,e15⟩:=fO tJ hm t14 (gW .unread) trivial (jZ.many .unread,gB .unread)
 obtain⟨W16,r16,t16,e16⟩:=fO tJ hm t15 (gW .heap) trivial (jZ.many .heap,gB .heap)
 obtain⟨W17,r17,t17,e17⟩:=fO tJ hm t16 (gW .strong) trivial (jZ.many .strong,gB .strong)
 obtain⟨W18,r18,t18,e18⟩:=fO tJ hm t17 (gW .pI) trivial (jZ.many .pI,gB .pI)
 obtain⟨W19,r19,t19,e19⟩:=fO tJ hm t18 (gW .fill) trivial (jZ.many .fill,gB .fill)
 obtain⟨W20,r20,t20,e20⟩:=fO tJ hm t19 (gW .zZ) trivial (jZ.many .zZ,gB .zZ)
 obtain⟨W21,r21,t21,e21⟩:=fO tJ hm t20 (gW .ui) trivial (jZ.many .ui,gB .ui)
 rw[aaR] at t21
 have hE:Ext [w.heap.size] (w.alloc (.map #[] 0)) W21:=(e1.trans (e2.trans (e3.trans (e4.trans (e5.trans (e6.trans (e7.trans (e8.trans (e9.trans (e10.trans (e11.trans (e12.trans (e13.trans (e14.trans (e15.trans (e16.trans (e17.trans (e18.trans (e19.trans (e20.trans e21))))))))))))))))))))
 have HB:=ae (show Below w.heap.size w W21 from(aj (aG _ _) _).trans ⟨hE.os,hE.tape,hE.output,hE.size,fun b hb=>hE.block b (by simp;omega) (by simp;omega)⟩)
 have HT:=ae t21
 have HE:Hid (w.heap.size<=w.heap.size):=ae (ai _)
 clear h0 hE hm t1 t2 t3 t4 t5 t6 t7 t8 t9 t10 t11 t12 t13 t14 t15 t16 t17 t18 t19 t20 t21 e1 e2 e3 e4 e5 e6 e7 e8 e9 e10 e11 e12 e13 e14 e15 e16 e17 e18 e19 e20 e21
 simp only[gW,jZ.word,jZ.many,gB,UL,wev,iv,Int.cast_ofNat_Int,Int.natCast_zero,Int.natCast_one] at r1 r2 r3 r4 r5 r6 r7 r8 r9 r10 r11 r12 r13 r14 r15 r16 r17 r18 r19 r20 r21
 go_enter Tryz.func111,Tryz.ntmps111
 go_wp2
 go_returns
 exact⟨_,by simp,ai _,HT.o,HB.o⟩
theorem OY {w:World} {b n:Nat} {l:List Bool} {cs:Array Value} {t:TypeId} (h:w.heap[b]? =some (.cells cs t (0,0))) (hc:cs.toList=dE l) (hn:n=l.length) (hm:l.length<=100):BA w (.slice (some ⟨b,0,none⟩) n n) l:=by
 subst hn
 refine⟨by simp[dE],_,_,rfl,ai _,by simp only[maxLen];omega,(fun h=>by cases h),fun a ha=>?_⟩
 cases ha
 refine⟨rfl,?_⟩
 rw[<-hc]
 exact xn h
theorem dV (code:Int) (l:List Bool) (w:World) (hm:l.length<=100) (cs:Array Value) (hc:cs.toList=dE l) (t:TypeId) (n:Nat) (hn:n=l.length):
 Calls Tryz.prog 112 #[iv code,.slice (some ⟨w.heap.size,0,none⟩) n n] (w.alloc (.cells cs t)) (SY code (l.contains true) w):=by
 refine(Qj code l _ _ (OY (ay _ _) hc hn hm)).mono ?_
 rintro e w' ⟨hb,h⟩
 exact⟨bg (aj (aG _ _) _) hb,h⟩
theorem qx (a b:Int) (w:World):Calls Tryz.prog 249 #[iv a,iv b] w (SY 3 (decide (b<=a)) w):=by
 go_enter Tryz.func249,Tryz.ntmps249
 go_wp2_with fail
 refine(dV 3 [decide (b<=a)] w (by simp) _ (by simp[dE]) _ _ rfl).mono ?_
 rintro e w1 ⟨hb,⟨hc,rfl⟩|⟨hc,rfl⟩⟩
 ·(try go_wp2_with fail)
  go_end0
  exact⟨hb,.inl ⟨by simpa using hc,rfl⟩⟩
 ·exact⟨rfl,hb,.inr ⟨by simpa using hc,rfl⟩⟩
theorem iZ (a b:Int) (w:World):Calls Tryz.prog 251 #[iv a,iv b] w (SY 7 (decide (b<=a)) w):=by
 go_enter Tryz.func251,Tryz.ntmps251
 go_wp2_with fail
 refine(dV 7 [decide (b<=a)] w (by simp) _ (by simp[dE]) _ _ rfl).mono ?_
 rintro e w1 ⟨hb,⟨hc,rfl⟩|⟨hc,rfl⟩⟩
 ·(try go_wp2_with fail)
  go_end0
  exact⟨hb,.inl ⟨by simpa using hc,rfl⟩⟩
 ·exact⟨rfl,hb,.inr ⟨by simpa using hc,rfl⟩⟩
theorem EY (a b m:Int) (w:World):Calls Tryz.prog 288 #[iv a,iv b,iv m] w (SY 2 (decide (b<a) ||decide (m<b)) w):=by
 go_enter Tryz.func288,Tryz.ntmps288
 go_wp2_with fail
 refine(dV 2 [decide (b<a),decide (m<b)] w (by simp) _ (by simp[dE]) _ _ rfl).mono ?_
 rintro e w1 ⟨hb,⟨hc,rfl⟩|⟨hc,rfl⟩⟩
 ·(try go_wp2_with fail)
  go_end0
  exact⟨hb,.inl ⟨by simpa using hc,rfl⟩⟩
 ·exact⟨rfl,hb,.inr ⟨by simpa using hc,rfl⟩⟩
theorem zx (a b m k:Int) (w:World) (hx:0<=a/\a<=100000/\0<=k/\k<=100000):Calls Tryz.prog 255 #[iv a,iv b,iv m,iv k] w (SY 2 (decide (b<a) ||(decide (m<b) ||decide (a+k<b))) w):=by
 go_enter Tryz.func255,Tryz.ntmps255
 go_wp2_with fail
 refine(dV 2 [decide (b<a),decide (m<b),decide (a+k<b)] w (by simp) _ (by simp[dE]) _ _ rfl).mono ?_
 rintro e w1 ⟨hb,⟨hc,rfl⟩|⟨hc,rfl⟩⟩
 ·(try go_wp2_with fail)
  go_end0
  exact⟨hb,.inl ⟨by simpa using hc,rfl⟩⟩
 ·exact⟨rfl,hb,.inr ⟨by simpa using hc,rfl⟩⟩
end Go.Proofs.YthbpmepjmebolaaGreatDoor.Bk
end
section
namespace Go.Proofs.YthbpmepjmebolaaGreatDoor.Bk
open Go.RowKit Go.RG Go.SL Go.Shelf ji Go.TB Go.Proofs.YthbpmepjmebolaaGreatDoor.yR
structure Row where
 t:TypeId
 size:Nat
 v:Value
 n:Nat
 xs:List Value
structure wQ (N:Nat) (w:World) (wb:Nat) (R:List Row):Prop where
 own: ∀(i:Nat) (r:Row),R[i]? =some r->w.ownsRow N r.t r.size r.v r.n r.xs
 apart: ∀(i j:Nat) (a b:Row),R[i]? =some a->R[j]? =some b->i≠j->a.v.ownBlock=none∨a.v.ownBlock≠b.v.ownBlock
 off: ∀(i:Nat) (r:Row),R[i]? =some r->r.v.ownBlock≠some wb
 lt:wb<w.heap.size
 base:N<=wb
theorem dI {w W:World} {N:Nat} {t:TypeId} {size:Nat} {v:Value} {n:Nat} {xs:List Value} (h:w.ownsRow N t size v n xs) {Ms:List Nat} (hE:Ext Ms w W) (hM: ∀b,v.ownBlock=some b->b∉Ms):W.ownsRow N t size v n xs:=by
 obtain⟨h1,h2|⟨g,c,cs,rfl,hb,hc,h3⟩⟩:=h
 ·exact⟨h1,.inl h2⟩
 ·exact⟨h1,.inr ⟨g,c,cs,rfl,hb,(hE.block g (aT.1 hc).1 (hM g rfl)).trans hc,h3⟩⟩
theorem wQ.keep {N:Nat} {w W:World} {wb:Nat} {R:List Row} (h:wQ N w wb R) {Ms:List Nat} (hE:Ext Ms w W) (hM: ∀m∈Ms,m=wb∨m<N):wQ N W wb R where
 own i r hr:=dI (h.own i r hr) hE (fun b hb hm=>by
  rcases hM b hm with rfl|h1
  ·exact h.off i r hr hb
  ·have:=((h.own i r hr).lt b hb).1;omega)
 apart:=h.apart
 off:=h.off
 lt:=gy h.lt hE.size
 base:=h.base
theorem wQ.put {N:Nat} {w W:World} {wb:Nat} {R:List Row} (h:wQ N w wb R) {i:Nat} {r:Row} (hr:R[i]? =some r) (r':Row) {Ms:List Nat} (hE:Ext Ms w W) (hM: ∀m∈Ms,m=wb∨m<N∨r.v.ownBlock=some m)
 (ho:W.ownsRow N r'.t r'.size r'.v r'.n r'.xs) (hb:r'.v.ownBlock=r.v.ownBlock∨r'.v.ownBlock=none∨ ∃k,r'.v.ownBlock=some k/\w.heap.size<=k):wQ N W wb (R.set i r'):=by
 have hlt:=(jg.1 hr).1
 have key: ∀(j:Nat) (x:Row),(R.set i r')[j]? =some x->(j=i/\x=r')∨(j≠i/\R[j]? =some x):=by
  intro j x hx
  rw[List.getElem?_set] at hx
  by_cases e:i=j
  ·subst e
   rw[aC rfl,aC hlt] at hx
   exact .inl ⟨rfl,(jw hx).symm⟩
  ·rw[ak e] at hx
   exact .inr ⟨fun h=>e h.symm,hx⟩
 have new: ∀(j:Nat) (x:Row),R[j]? =some x->j≠i->x.v.ownBlock=none∨x.v.ownBlock≠r'.v.ownBlock:=by
  intro j x hx hj
  rcases hb with hb|hb|⟨k,hk,hs⟩
  ·rw[hb];exact h.apart j i x r hx hr hj
  ·rw[hb]
   cases x.v.ownBlock with
   |none=>exact .inl rfl
   |some b=>exact .inr (by simp)
  ·rw[hk]
   cases hxb:x.v.ownBlock with
   |none=>exact .inl rfl
   |some b=>
    refine .inr fun e=>?_
    obtain rfl:=jw e
    have:=((h.own j x hx).lt b hxb).2
    omega
 refine⟨fun j x hx=>?_,fun j k a b ha hbb hjk=>?_,fun j x hx=>?_,gy h.lt hE.size,h.base⟩
 ·rcases key j x hx with⟨rfl,rfl⟩|⟨hj,hx'⟩
  ·exact ho
  ·refine dI (h.own j x hx') hE (fun b hbb hm=>?_)
   rcases hM b hm with rfl|h1|h1
   ·exact h.off j x hx' hbb
   ·have:=((h.own j x hx').lt b hbb).1;omega
   ·rcases h.apart j i x r hx' hr hj with h2|h2
    ·rw[h2] at hbb;cases hbb
    ·exact h2 (hbb.trans h1.symm)
 ·rcases key j a ha with⟨rfl,rfl⟩|⟨hj,ha'⟩
  ·rcases key k b hbb with⟨rfl,rfl⟩|⟨hk,hb'⟩
   ·exact absurd rfl hjk
   ·rcases new k b hb' hk with h1|h1
    ·rcases hq:a.v.ownBlock with _|q
     ·exact .inl rfl
     ·exact .inr (by rw[h1];simp)
    ·exact .inr fun e=>h1 e.symm
  ·rcases key k b hbb with⟨rfl,rfl⟩|⟨hk,hb'⟩
   ·exact new j a ha' hj
   ·exact h.apart j k a b ha' hb' hjk
 ·rcases key j x hx with⟨rfl,rfl⟩|⟨hj,hx'⟩
  ·rcases hb with hb|hb|⟨k,hk,hs⟩
   ·rw[hb];exact h.off _ r hr
   ·rw[hb];simp
   ·rw[hk];intro e;obtain rfl:=jw e;have:=h.lt;omega
  ·exact h.off j x hx'
theorem wQ.push {N:Nat} {w W:World} {wb:Nat} {R:List Row} (h:wQ N w wb R) (r':Row) {Ms:List Nat} (hE:Ext Ms w W) (hM: ∀m∈Ms,m=wb∨m<N)
 (ho:W.ownsRow N r'.t r'.size r'.v r'.n r'.xs) (hb:r'.v.ownBlock=none∨ ∃k,r'.v.ownBlock=some k/\w.heap.size<=k):wQ N W wb (R++[r']):=by
 have hk:=h.keep hE hM
 have key: ∀(j:Nat) (x:Row),(R++[r'])[j]? =some x->(R[j]? =some x)∨(j=R.length/\x=r'):=by
  intro j x hx
  by_cases hj:j<R.length
  ·rw[uG hj] at hx;exact .inl hx
  ·rw[nT (by omega)] at hx
   have h0:=(jg.1 hx).1
   simp only[List.length_cons,List.length_nil] at h0
   have:j-R.length=0:=by omega
   rw[this] at hx
   simp only[List.getElem?_cons_zero,Option.some.injEq] at hx
   exact .inr ⟨by omega,hx.symm⟩
 have new: ∀(j:Nat) (x:Row),R[j]? =some x->(x.v.ownBlock=none∨x.v.ownBlock≠r'.v.ownBlock)/\(r'.v.ownBlock=none∨r'.v.ownBlock≠x.v.ownBlock):=by
  intro j x hx
  rcases hb with hb|⟨k,hk,hs⟩
  ·rw[hb]
   refine⟨?_,.inl rfl⟩
   cases x.v.ownBlock with
   |none=>exact .inl rfl
   |some b=>exact .inr (by simp)
  ·have:x.v.ownBlock≠some k:=fun e=>by have:=((h.own j x hx).lt k e).2;omega
   rw[hk]
   exact⟨.inr this,.inr fun e=>this e.symm⟩
 refine⟨fun j x hx=>?_,fun j k a b ha hbb hjk=>?_,fun j x hx=>?_,hk.lt,h.base⟩
 ·rcases key j x hx with h1|⟨_,rfl⟩
  ·exact hk.own j x h1
  ·exact ho
 ·rcases key j a ha with h1|⟨h1,rfl⟩ <;>rcases key k b hbb with h2|⟨h2,rfl⟩
  ·exact h.apart j k a b h1 h2 hjk
  ·exact(new j a h1).1
  ·exact(new k b h2).2
  ·omega
 ·rcases key j x hx with h1|⟨_,rfl⟩
  ·exact h.off j x h1
  ·rcases hb with hb|⟨k,hk,hs⟩
   ·rw[hb];simp
   ·rw[hk];intro e;obtain rfl:=jw e;have:=h.lt;omega
structure SV where
 wF:Value
 TR:Value
 bV:Value
 Ef:Value
 MO:Value
 hps:Value
 cks:Value
 trs:Value
abbrev dL (s:jI) (V:SV):Array Value:=
 #[iv s.led.field.rows,iv s.led.field.aK,iv s.led.field.left.1,iv s.led.field.left.2,V.wF,iv s.led.rate,iv s.led.box.1,iv s.led.box.2,V.TR,
   iv s.heap.last,iv s.heap.size,iv s.heap.aY,iv s.heap.die,iv s.heap.tY,iv s.heap.start.1,iv s.heap.start.2,V.bV,V.Ef,V.MO,V.hps,V.cks,V.trs]
def yM (e:KE):Row:=⟨3,1,e.1,e.2.length,ah e.2⟩
def iH (s:jI) (V:SV) (es:List KE):List Row:=
 [⟨118,5,V.wF,s.led.field.ax.length,dJ s.led.field.ax⟩,⟨120,3,V.TR,s.led.notes.length,aX s.led.notes⟩,
   ⟨34,2,V.bV,s.heap.bV.length,aF s.heap.bV⟩,⟨3,1,V.Ef,s.heap.turns.length,ah s.heap.turns⟩,⟨122,3,V.MO,s.heap.readings.length,aX s.heap.readings⟩,
   ⟨112,2,V.hps,s.df.heaps.length,aF s.df.heaps⟩,⟨36,1,V.cks,es.length,eQ es⟩,⟨124,4,V.trs,s.df.aJ.length,gG s.df.aJ⟩]++es.map yM
structure jO (N:Nat) (w:World) (wb:Nat) (s:jI) (V:SV) (es:List KE):Prop where
 blk:w.heap[wb]? =some (.cells (dL s V) 212 (0,0))
 rows:wQ N w wb (iH s V es)
 es:es.map (·.2)=s.df.aU
def ru (N:Nat) (w:World) (ns:Value) (l:List Int):Prop:= ∃b c,ns= .slice (some ⟨b,0,none⟩) l.length c/\b<N/\ ∀(j:Nat) (h:j<l.length),w.cell? ⟨b,j,none⟩=some (iv l[j])
def qN (N:Nat) (wb:Nat) (x:Int×jI) (w:World) (e:Ending) (w':World):Prop:=
 Below N w w'/\((x.1=0/\e= .returned (.tuple #[])/\ ∃V es,jO N w' wb x.2 V es)∨(x.1≠0/\e= .panicked (jW x.1)))
theorem eF {N:Nat} {w:World} {wb:Nat} {s:jI} {V:SV} {es:List KE} (h:jO N w wb s V es):N<=w.heap.size:=by have:=h.rows.lt;have:=h.rows.base;omega
theorem jO.below {N:Nat} {w W:World} {wb:Nat} {s:jI} {V:SV} {es:List KE} (h:jO N w wb s V es) (hb:Below w.heap.size w W):jO N W wb s V es:=
 ⟨(hb.block _ h.rows.lt).trans h.blk,h.rows.keep (Ms:=[]) (Ext.az hb) (by simp),h.es⟩
theorem jO.store {N:Nat} {w W:World} {wb:Nat} {s s':jI} {V:SV} {es:List KE} (h:jO N w wb s V es) (hE:Ext [wb] w W) (hb:W.heap[wb]? =some (.cells (dL s' V) 212 (0,0))) (hr:iH s' V es=iH s V es) (hc:s'.df.aU=s.df.aU):jO N W wb s' V es:=
 ⟨hb,by rw[hr];exact h.rows.keep hE (fun m hm=> .inl (by simpa using hm)),by rw[hc];exact h.es⟩
theorem gq {W:World} {b off:Nat} {v:Value}:Ext [b] W (W.setCell ⟨b,off,none⟩ v):=
 ⟨rfl,rfl,rfl,by simp[World.setCell],fun k _ hm=>heap_setCell_other W _ k v (by simpa using hm)⟩
theorem bT (a b m:Int):(J4 a b m=false)= ¬(a<=b/\b<=m):=by
 unfold J4
 by_cases h1:a<=b <;>by_cases h2:b<=m <;>simp[h1,h2]
theorem bU (a b m k:Int):(Kw a b m k=false)= ¬(a<=b/\b<=m/\b<=a+k):=by
 unfold Kw
 by_cases h1:a<=b <;>by_cases h2:b<=m <;>by_cases h3:b<=a+k <;>simp[h1,h2,h3]
def aet (c:Prop) (v:Value) (w:World) (e:Ending) (w':World):Prop:=Below w.heap.size w w'/\((c/\e= .returned v)∨(¬c/\e= .panicked (jW 2)))
theorem vG {N wb:Nat} {x:Int×jI} {w w':World} {c:Int} (h3:Below N w w') (hx:x.1=c) (hc:c≠0):qN N wb x w (.panicked (jW c)) w':=⟨h3,.inr ⟨by rw[hx];exact hc,by rw[hx]⟩⟩
theorem uQ (a b:Int) (w:World):Calls Tryz.prog 253 #[iv a,iv b] w (aet (a<=b/\b<=2000) (rv (a,b)) w):=by
 go_enter Tryz.func253,Tryz.ntmps253
 go_wp2_with fail
 refine(EY _ _ _ _).mono ?_
 rintro e w1 ⟨hb,⟨hc,rfl⟩|⟨hc,rfl⟩⟩
 ·simp only[Bool.or_eq_false_iff,decide_eq_false_iff_not] at hc
  have HB:=ae hb
  obtain⟨c0,f0,l0⟩:=af ((hb.block w.heap.size (by simp)).trans (ay _ _))
  have HC:=ae hc
  have c00:=c0 0
  have c01:=c0 1
  simp at c00 c01
  have d0:(w1.setCell ⟨w.heap.size,0,none⟩ (iv a)).cell? ⟨w.heap.size,0,none⟩=some (iv a):=World.cell?_setCell_same _ _ _ c00
  have d1:((w1.setCell ⟨w.heap.size,0,none⟩ (iv a)).setCell ⟨w.heap.size,1,none⟩ (iv b)).cell? ⟨w.heap.size,1,none⟩=some (iv b):=World.cell?_setCell_same _ _ _ ((World.cell?_setCell_other _ _ _ _ (by simp)).trans c01)
  clear hb hc c0
  go_wp2_with fail
  (try simp only[Exit.inBlock,Exit.then])
  refine bodyPost_ret (v:=rv (a,b)) (by simp[results,Tryz.results253,go_sem,d0,d1]) rfl ?_
  exact⟨((bg (aj (aG _ _) _) HB.o).setCell (ai _) _).setCell (ai _) _,.inl ⟨by have:=HC.o;omega,rfl⟩⟩
 ·simp only[Bool.or_eq_true,eH] at hc
  exact⟨rfl,bg (aj (aG _ _) _) hb,.inr ⟨by omega,rfl⟩⟩
theorem uq (a b:Int) (wb:Nat) (s:jI) (V:SV) (w:World) (hblk:w.heap[wb]? =some (.cells (dL s V) 212 (0,0))):Calls Tryz.prog 250 #[.pointer (some ⟨wb,0,none⟩),iv a,iv b] w (aet (a<=b/\b<=s.led.field.rows) (rv (a,b)) w):=by
 obtain⟨k0,g0,j0⟩:=af hblk
 clear hblk
 go_enter Tryz.func250,Tryz.ntmps250
 go_wp2_with fail
 refine(EY _ _ _ _).mono ?_
 rintro e w1 ⟨hb,⟨hc,rfl⟩|⟨hc,rfl⟩⟩
 ·simp only[Bool.or_eq_false_iff,decide_eq_false_iff_not] at hc
  have HB:=ae hb
  obtain⟨c0,f0,l0⟩:=af ((hb.block w.heap.size (by simp)).trans (ay _ _))
  have HC:=ae hc
  have c00:=c0 0
  have c01:=c0 1
  simp at c00 c01
  have d0:(w1.setCell ⟨w.heap.size,0,none⟩ (iv a)).cell? ⟨w.heap.size,0,none⟩=some (iv a):=World.cell?_setCell_same _ _ _ c00
  have d1:((w1.setCell ⟨w.heap.size,0,none⟩ (iv a)).setCell ⟨w.heap.size,1,none⟩ (iv b)).cell? ⟨w.heap.size,1,none⟩=some (iv b):=World.cell?_setCell_same _ _ _ ((World.cell?_setCell_other _ _ _ _ (by simp)).trans c01)
  clear hb hc c0 k0 g0 j0
  go_wp2_with fail
  (try simp only[Exit.inBlock,Exit.then])
  refine bodyPost_ret (v:=rv (a,b)) (by simp[results,Tryz.results250,go_sem,d0,d1]) rfl ?_
  exact⟨((bg (aj (aG _ _) _) HB.o).setCell (ai _) _).setCell (ai _) _,.inl ⟨by have:=HC.o;omega,rfl⟩⟩
 ·simp only[Bool.or_eq_true,eH] at hc
  exact⟨rfl,bg (aj (aG _ _) _) hb,.inr ⟨by omega,rfl⟩⟩
theorem vF (a b k:Int) (w:World) (hx:0<=a/\a<=100000/\0<=k/\k<=100000):Calls Tryz.prog 260 #[iv a,iv b,iv k] w (aet (a<=b/\b<=100/\b<=a+k) (rv (a,b)) w):=by
 go_enter Tryz.func260,Tryz.ntmps260
 go_wp2_with fail
 refine(zx _ _ _ _ _ hx).mono ?_
 rintro e w1 ⟨hb,⟨hc,rfl⟩|⟨hc,rfl⟩⟩
 ·simp only[Bool.or_eq_false_iff,decide_eq_false_iff_not] at hc
  have HB:=ae hb
  obtain⟨c0,f0,l0⟩:=af ((hb.block w.heap.size (by simp)).trans (ay _ _))
  have HC:=ae hc
  have c00:=c0 0
  have c01:=c0 1
  simp at c00 c01
  have d0:(w1.setCell ⟨w.heap.size,0,none⟩ (iv a)).cell? ⟨w.heap.size,0,none⟩=some (iv a):=World.cell?_setCell_same _ _ _ c00
  have d1:((w1.setCell ⟨w.heap.size,0,none⟩ (iv a)).setCell ⟨w.heap.size,1,none⟩ (iv b)).cell? ⟨w.heap.size,1,none⟩=some (iv b):=World.cell?_setCell_same _ _ _ ((World.cell?_setCell_other _ _ _ _ (by simp)).trans c01)
  clear hb hc c0
  go_wp2_with fail
  (try simp only[Exit.inBlock,Exit.then])
  refine bodyPost_ret (v:=rv (a,b)) (by simp[results,Tryz.results260,go_sem,d0,d1]) rfl ?_
  exact⟨((bg (aj (aG _ _) _) HB.o).setCell (ai _) _).setCell (ai _) _,.inl ⟨by have:=HC.o;omega,rfl⟩⟩
 ·simp only[Bool.or_eq_true,eH] at hc
  exact⟨rfl,bg (aj (aG _ _) _) hb,.inr ⟨by omega,rfl⟩⟩
theorem xI (a:Int) (wb:Nat) (s:jI) (V:SV) (w:World) (hblk:w.heap[wb]? =some (.cells (dL s V) 212 (0,0))) (hl:s.heap.last=4):Calls Tryz.prog 256 #[.pointer (some ⟨wb,0,none⟩),iv a] w (SY 7 (decide (4<a)) w):=by
 obtain⟨k0,g0,j0⟩:=af hblk
 clear hblk
 go_enter Tryz.func256,Tryz.ntmps256
 go_wp2_with fail
 refine(iZ _ _ _).mono ?_
 rintro e w1 ⟨hb,⟨hc,rfl⟩|⟨hc,rfl⟩⟩
 ·(try go_wp2_with fail)
  go_end0
  exact⟨hb,.inl ⟨by simp at hc⊢;omega,rfl⟩⟩
 ·exact⟨rfl,hb,.inr ⟨by simp at hc⊢;omega,rfl⟩⟩
theorem aa1 (N:Nat) (w:World) (wb:Nat) (s:jI) (V:SV) (es:List KE) (ns:Value) (hO:jO N w wb s V es) (hG:Good s):Calls Tryz.prog 176 #[.pointer (some ⟨wb,0,none⟩),ns] w (qN N wb (jb s .row []) w):=by
 have HO:=ae hO
 have hr:=hG.rows
 obtain⟨c0,f0,l0⟩:=af hO.blk
 clear hO hG
 go_enter Tryz.func176,Tryz.ntmps176
 go_wp2_with fail
 refine(qx _ _ _).mono ?_
 rintro e w1 ⟨hb,⟨hc,rfl⟩|⟨hc,rfl⟩⟩
 ·obtain⟨c1,f1,l1⟩:=af ((hb.block _ l0).trans HO.o.blk)
  have HB:=ae hb
  clear hb c0 f0
  have hlt: ¬5<=s.led.field.rows:=by simpa using hc
  have hlt':s.led.field.rows<5:=by omega
  clear hc
  go_wp2_with fail
  go_end0
  have zI:=HO.o.below HB.o
  simp only[jb]
  rw[ak (by omega)]
  refine⟨(HB.o.mono (eF HO.o)).setCell HO.o.rows.base _,.inl ⟨rfl,rfl,V,es,?_⟩⟩
  exact zI.store gq (aI zI.blk _) rfl rfl
 ·have hge:5<=s.led.field.rows:=by simpa using hc
  simp only[jb]
  rw[aC hge]
  exact⟨rfl,hb.mono (eF HO.o),.inr ⟨by simp,rfl⟩⟩
theorem Yg (N:Nat) (w:World) (wb:Nat) (s:jI) (V:SV) (es:List KE) (ns:Value) (x:Int) (hO:jO N w wb s V es) (hn:ru N w ns [x]):Calls Tryz.prog 181 #[.pointer (some ⟨wb,0,none⟩),ns] w (qN N wb (jb s .rate [x]) w):=by
 obtain⟨vt,vn,vw,vu,vr,vh,vk,vs⟩:=V
 have HO:=ae hO
 have gz:=eF hO
 obtain⟨b,c,rfl,hbN,hcs⟩:=hn
 have lb:b<w.heap.size:=by omega
 have lw:=hO.rows.lt
 have vC:=hO.rows.base
 have HW:Hid (∀W,Below N w W->b<W.heap.size/\ ∀(j:Nat) (h:j<[x].length),W.cell? ⟨b,j,none⟩=some (iv [x][j])):=ae (fun W hB=>⟨by have:=hB.size;omega,fun j h=>(iY (hB.block b hbN)).trans (hcs j h)⟩)
 obtain⟨c0,f0,l0⟩:=af hO.blk
 have oD:=hcs 0 (by simp)
 simp only[au] at oD
 have HB0:Hid (Below w.heap.size w w):=ae (aG _ _)
 clear hO hcs
 go_enter Tryz.func181,Tryz.ntmps181
 go_wp2_with fail
 refine zg 8 [] none [] ?_
 simp only[zt]
 repeat ((first|refine zd ?_|refine zk ?_);simp only[zp])
 intro W1 hE hF
 have HB1:=ae (bg HB0.o hE.below)
 clear hE hF c0 f0 oD
 obtain⟨c1,f1,l1⟩:=af ((HB1.o.block _ lw).trans HO.o.blk)
 obtain⟨vN,hcs1⟩:=HW.o W1 (HB1.o.mono gz)
 have n10:=hcs1 0 (by simp)
 simp only[au] at n10
 clear hcs1
 go_wp2_with fail
 refine(dV 2 [x==0,decide (50<x)] W1 (by simp) _ (by simp[dE]) _ _ rfl).mono ?_
 rintro e W2 ⟨hb,⟨hc,rfl⟩|⟨hc,rfl⟩⟩
 rotate_left
 ·simp at hc
  simp only[jb,bT,bU,dw]
  (repeat (first|rw[aC (by omega)]|rw[ak (by omega)]))
  exact⟨rfl,(bg HB1.o hb).mono gz,.inr ⟨by simp,rfl⟩⟩
 simp at hc
 have HB2:=ae (bg HB1.o hb)
 have jK:=ae hc
 clear hb hc c1 f1 vN n10
 obtain⟨c2,f2,l2⟩:=af ((HB2.o.block _ lw).trans HO.o.blk)
 obtain⟨wS,hcs2⟩:=HW.o W2 (HB2.o.mono gz)
 have n20:=hcs2 0 (by simp)
 simp only[au] at n20
 clear hcs2
 go_wp2_with fail
 go_end0
 have q0:=jK.o
 simp only[jb,bT,bU,dw]
 (repeat (first|rw[aC (by omega)]|rw[ak (by omega)]))
 have zI:=HO.o.below HB2.o
 exact⟨((HB2.o.mono gz).setCell vC _),.inl ⟨rfl,rfl,_,es,zI.store (gq) (aI (zI.blk) _) rfl rfl⟩⟩
theorem abY (N:Nat) (w:World) (wb:Nat) (s:jI) (V:SV) (es:List KE) (ns:Value) (x y:Int) (hO:jO N w wb s V es) (hn:ru N w ns [x,y]):Calls Tryz.prog 182 #[.pointer (some ⟨wb,0,none⟩),ns] w (qN N wb (jb s .box [x,y]) w):=by
 obtain⟨vt,vn,vw,vu,vr,vh,vk,vs⟩:=V
 have HO:=ae hO
 have gz:=eF hO
 obtain⟨b,c,rfl,hbN,hcs⟩:=hn
 have lb:b<w.heap.size:=by omega
 have lw:=hO.rows.lt
 have vC:=hO.rows.base
 have HW:Hid (∀W,Below N w W->b<W.heap.size/\ ∀(j:Nat) (h:j<[x,y].length),W.cell? ⟨b,j,none⟩=some (iv [x,y][j])):=ae (fun W hB=>⟨by have:=hB.size;omega,fun j h=>(iY (hB.block b hbN)).trans (hcs j h)⟩)
 obtain⟨c0,f0,l0⟩:=af hO.blk
 have oD:=hcs 0 (by simp)
 simp only[au] at oD
 have n01:=hcs 1 (by simp)
 simp only[au] at n01
 have HB0:Hid (Below w.heap.size w w):=ae (aG _ _)
 clear hO hcs
 go_enter Tryz.func182,Tryz.ntmps182
 go_wp2_with fail
 refine RX.gm (fun ps W'=> ¬(x<=y/\y<=2000)/\ps=jW 2/\Below N w W') 8 [] none [(7,⟨fun _ v=>v=rv (x,y),fun _ _ _=>(x<=y/\y<=2000)⟩)] (by rintro ps a1 Wx hdf ⟨h1,rfl,h3⟩;refine⟨hdf,vG (c:=2) h3 ?_ (by decide)⟩;simp only[jb,bT,bU,dw];(repeat (first|rw[aC (by omega)]|rw[ak (by omega)]))) (by as_aux_lemma=>kernel_rfl) (by as_aux_lemma=>kernel_rfl) ?_
 simp only[zt]
 repeat (refine RX.zd ?_;simp only[zp])
 refine RX.bF _ (by rfl) (by rfl) ⟨_,rfl⟩ (fun Wq hE2 hF2=>?_) (fun v Wa Wb ho hE=>ho) (fun v hv=>?_)
 ·have hE':Ext [] w Wq:=hE2
  refine RX.dn 253 #[iv x,iv y] (by go_simp;try rfl) ?_
  refine(uQ x y Wq).mono ?_
  rintro e w' ⟨hb,⟨hc,rfl⟩|⟨hc,rfl⟩⟩
  ·exact .inl ⟨_,rfl,rfl,hc,Ext.az hb⟩
  ·exact .inr ⟨_,rfl,hc,rfl,(bg HB0.o (bg hE'.below hb)).mono gz⟩
 obtain rfl:v=rv (x,y):=hv
 simp only[zp]
 intro W1 hE hF
 have hc:x<=y/\y<=2000:=hF _ (bD _)
 have HB1:=ae (bg HB0.o (show Ext [] w W1 from hE).below)
 have jK:=ae hc
 clear hE hF hc c0 f0 oD n01
 obtain⟨c1,f1,l1⟩:=af ((HB1.o.block _ lw).trans HO.o.blk)
 obtain⟨vN,hcs1⟩:=HW.o W1 (HB1.o.mono gz)
 have n10:=hcs1 0 (by simp)
 simp only[au] at n10
 have n11:=hcs1 1 (by simp)
 simp only[au] at n11
 clear hcs1
 go_wp2_with fail
 go_end0
 have q0:=jK.o
 simp only[jb,bT,bU,dw]
 (repeat (first|rw[aC (by omega)]|rw[ak (by omega)]))
 have zI:=HO.o.below HB1.o
 exact⟨(((HB1.o.mono gz).setCell vC _).setCell vC _),.inl ⟨rfl,rfl,_,es,zI.store ((gq).trans gq) (aI (aI (zI.blk) _) _) rfl rfl⟩⟩
theorem YQ (N:Nat) (w:World) (wb:Nat) (s:jI) (V:SV) (es:List KE) (ns:Value) (x y:Int) (hO:jO N w wb s V es) (hn:ru N w ns [x,y]):Calls Tryz.prog 177 #[.pointer (some ⟨wb,0,none⟩),ns] w (qN N wb (jb s .left [x,y]) w):=by
 obtain⟨vt,vn,vw,vu,vr,vh,vk,vs⟩:=V
 have HO:=ae hO
 have gz:=eF hO
 obtain⟨b,c,rfl,hbN,hcs⟩:=hn
 have lb:b<w.heap.size:=by omega
 have lw:=hO.rows.lt
 have vC:=hO.rows.base
 have HW:Hid (∀W,Below N w W->b<W.heap.size/\ ∀(j:Nat) (h:j<[x,y].length),W.cell? ⟨b,j,none⟩=some (iv [x,y][j])):=ae (fun W hB=>⟨by have:=hB.size;omega,fun j h=>(iY (hB.block b hbN)).trans (hcs j h)⟩)
 obtain⟨c0,f0,l0⟩:=af hO.blk
 have oD:=hcs 0 (by simp)
 simp only[au] at oD
 have n01:=hcs 1 (by simp)
 simp only[au] at n01
 have HB0:Hid (Below w.heap.size w w):=ae (aG _ _)
 clear hO hcs
 go_enter Tryz.func177,Tryz.ntmps177
 go_wp2_with fail
 refine RX.gm (fun ps W'=> ¬(x<=y/\y<=s.led.field.rows)/\ps=jW 2/\Below N w W') 9 [] none [(8,⟨fun _ v=>v=rv (x,y),fun _ _ _=>(x<=y/\y<=s.led.field.rows)⟩)] (by rintro ps a1 Wx hdf ⟨h1,rfl,h3⟩;refine⟨hdf,vG (c:=2) h3 ?_ (by decide)⟩;simp only[jb,bT,bU,dw];(repeat (first|rw[aC (by omega)]|rw[ak (by omega)]))) (by as_aux_lemma=>kernel_rfl) (by as_aux_lemma=>kernel_rfl) ?_
 simp only[zt]
 repeat (refine RX.zd ?_;simp only[zp])
 refine RX.bF _ (by rfl) (by rfl) ⟨_,rfl⟩ (fun Wq hE2 hF2=>?_) (fun v Wa Wb ho hE=>ho) (fun v hv=>?_)
 ·have hE':Ext [] w Wq:=hE2
  refine RX.dn 250 #[.pointer (some ⟨wb,0,none⟩),iv x,iv y] (by go_simp;try rfl) ?_
  refine(uq x y wb s _ Wq ((hE'.block _ lw (by simp)).trans HO.o.blk)).mono ?_
  rintro e w' ⟨hb,⟨hc,rfl⟩|⟨hc,rfl⟩⟩
  ·exact .inl ⟨_,rfl,rfl,hc,Ext.az hb⟩
  ·exact .inr ⟨_,rfl,hc,rfl,(bg HB0.o (bg hE'.below hb)).mono gz⟩
 obtain rfl:v=rv (x,y):=hv
 simp only[zp]
 intro W1 hE hF
 have hc:x<=y/\y<=s.led.field.rows:=hF _ (bD _)
 have HB1:=ae (bg HB0.o (show Ext [] w W1 from hE).below)
 have jK:=ae hc
 clear hE hF hc c0 f0 oD n01
 obtain⟨c1,f1,l1⟩:=af ((HB1.o.block _ lw).trans HO.o.blk)
 obtain⟨vN,hcs1⟩:=HW.o W1 (HB1.o.mono gz)
 have n10:=hcs1 0 (by simp)
 simp only[au] at n10
 have n11:=hcs1 1 (by simp)
 simp only[au] at n11
 clear hcs1
 go_wp2_with fail
 go_end0
 have q0:=jK.o
 simp only[jb,bT,bU,dw]
 (repeat (first|rw[aC (by omega)]|rw[ak (by omega)]))
 have zI:=HO.o.below HB1.o
 exact⟨(((HB1.o.mono gz).setCell vC _).setCell vC _),.inl ⟨rfl,rfl,_,es,zI.store ((gq).trans gq) (aI (aI (zI.blk) _) _) rfl rfl⟩⟩
theorem UN (N:Nat) (w:World) (wb:Nat) (s:jI) (V:SV) (es:List KE) (ns:Value) (x y:Int) (hO:jO N w wb s V es) (hn:ru N w ns [x,y]) (hx:0<=x/\x<=9999):Calls Tryz.prog 185 #[.pointer (some ⟨wb,0,none⟩),ns] w (qN N wb (jb s .start [x,y]) w):=by
 obtain⟨vt,vn,vw,vu,vr,vh,vk,vs⟩:=V
 have HO:=ae hO
 have gz:=eF hO
 obtain⟨b,c,rfl,hbN,hcs⟩:=hn
 have lb:b<w.heap.size:=by omega
 have lw:=hO.rows.lt
 have vC:=hO.rows.base
 have HW:Hid (∀W,Below N w W->b<W.heap.size/\ ∀(j:Nat) (h:j<[x,y].length),W.cell? ⟨b,j,none⟩=some (iv [x,y][j])):=ae (fun W hB=>⟨by have:=hB.size;omega,fun j h=>(iY (hB.block b hbN)).trans (hcs j h)⟩)
 obtain⟨c0,f0,l0⟩:=af hO.blk
 have oD:=hcs 0 (by simp)
 simp only[au] at oD
 have n01:=hcs 1 (by simp)
 simp only[au] at n01
 have HB0:Hid (Below w.heap.size w w):=ae (aG _ _)
 clear hO hcs
 go_enter Tryz.func185,Tryz.ntmps185
 go_wp2_with fail
 refine zg 6 [] none [] ?_
 simp only[zt]
 repeat ((first|refine zd ?_|refine zk ?_);simp only[zp])
 intro W1 hE hF
 have HB1:=ae (bg HB0.o hE.below)
 clear hE hF c0 f0 oD n01
 obtain⟨c1,f1,l1⟩:=af ((HB1.o.block _ lw).trans HO.o.blk)
 obtain⟨vN,hcs1⟩:=HW.o W1 (HB1.o.mono gz)
 have n10:=hcs1 0 (by simp)
 simp only[au] at n10
 have n11:=hcs1 1 (by simp)
 simp only[au] at n11
 clear hcs1
 go_wp2_with fail
 refine(zx _ _ _ _ _ (by omega)).mono ?_
 rintro e W2 ⟨hb,⟨hc,rfl⟩|⟨hc,rfl⟩⟩
 rotate_left
 ·simp at hc
  simp only[jb,bT,bU,dw]
  (repeat (first|rw[aC (by omega)]|rw[ak (by omega)]))
  exact⟨rfl,(bg HB1.o hb).mono gz,.inr ⟨by simp,rfl⟩⟩
 simp at hc
 have HB2:=ae (bg HB1.o hb)
 have jK:=ae hc
 clear hb hc c1 f1 vN n10 n11
 obtain⟨c2,f2,l2⟩:=af ((HB2.o.block _ lw).trans HO.o.blk)
 obtain⟨wS,hcs2⟩:=HW.o W2 (HB2.o.mono gz)
 have n20:=hcs2 0 (by simp)
 simp only[au] at n20
 have n21:=hcs2 1 (by simp)
 simp only[au] at n21
 clear hcs2
 go_wp2_with fail
 refine zg 8 [] none [] ?_
 simp only[zt]
 repeat ((first|refine zd ?_|refine zk ?_);simp only[zp])
 intro W3 hE hF
 have HB3:=ae (bg HB2.o hE.below)
 clear hE hF c2 f2 wS n20 n21
 obtain⟨c3,f3,l3⟩:=af ((HB3.o.block _ lw).trans HO.o.blk)
 obtain⟨Je,hcs3⟩:=HW.o W3 (HB3.o.mono gz)
 have n30:=hcs3 0 (by simp)
 simp only[au] at n30
 have n31:=hcs3 1 (by simp)
 simp only[au] at n31
 clear hcs3
 go_wp2_with fail
 go_end0
 have q0:=jK.o
 simp only[jb,bT,bU,dw]
 (repeat (first|rw[aC (by omega)]|rw[ak (by omega)]))
 have zI:=HO.o.below HB3.o
 exact⟨(((HB3.o.mono gz).setCell vC _).setCell vC _),.inl ⟨rfl,rfl,_,es,zI.store ((gq).trans gq) (aI (aI (zI.blk) _) _) rfl rfl⟩⟩
theorem jO.put {N:Nat} {w W:World} {wb:Nat} {s s':jI} {V V':SV} {es es':List KE} (h:jO N w wb s V es) {i:Nat} {r:Row} (hr:(iH s V es)[i]? =some r) (r':Row) {Ms:List Nat} (hE:Ext Ms w W) (hM: ∀m∈Ms,r.v.ownBlock=some m)
 (ho:W.ownsRow N r'.t r'.size r'.v r'.n r'.xs) (hb:r'.v.ownBlock=r.v.ownBlock∨ ∃k,r'.v.ownBlock=some k/\w.heap.size<=k) {off:Nat} {u:Value} (hblk:(W.setCell ⟨wb,off,none⟩ u).heap[wb]? =some (.cells (dL s' V') 212 (0,0)))
 (hrows:iH s' V' es'=(iH s V es).set i r') (hes:es'.map (·.2)=s'.df.aU):jO N (W.setCell ⟨wb,off,none⟩ u) wb s' V' es':=by
 refine⟨hblk,?_,hes⟩
 rw[hrows]
 have h1:=h.rows.put hr r' hE (fun m hm=> .inr (.inr (hM m hm))) ho (hb.imp id .inr)
 exact h1.keep gq (fun m hm=> .inl (by simpa using hm))
theorem aS {w:World} {base:Nat} {e:TypeId} {size:Nat} {v:Value} {n:Nat} {xs:List Value} (h:w.ownsRow base e size v n xs): ∃o c,v= .slice o n c:=by
 obtain⟨h1,⟨rfl,rfl⟩|⟨g,c,cs,rfl,h3⟩⟩:=h
 ·exact⟨none,0,rfl⟩
 ·exact⟨_,_,rfl⟩
theorem Fa (x y z:Int): ∀u∈[iv x,iv y,iv z],u.oneCell'=true:=by simp[Value.oneCell']
theorem Nj (x y z p q:Int): ∀u∈[iv x,iv y,iv z,iv p,iv q],u.oneCell'=true:=by simp[Value.oneCell']
theorem aa5 (x y z:Int): ∀u∈[Value.bool true,iv x,iv y,iv z],u.oneCell'=true:=by simp[Value.oneCell']
theorem Yr (x y:Int): ∀u∈[iv x,iv y],u.oneCell'=true:=by simp[Value.oneCell']
theorem one_one (x:Int): ∀u∈[iv x],u.oneCell'=true:=by simp[Value.oneCell']
theorem XU:iq Tryz.prog 27 118 (.agg #[iv 0,iv 0,iv 0,iv 0,iv 0]) 5 40:=⟨Tryz.underlying27,by kernel_rfl,rfl,by omega⟩
theorem aaW:iq Tryz.prog 31 120 (.agg #[iv 0,iv 0,iv 0]) 3 24:=⟨Tryz.underlying31,by kernel_rfl,rfl,by omega⟩
theorem afi:iq Tryz.prog 40 112 (rv (0,0)) 2 16:=⟨Tryz.underlying40,by kernel_rfl,rfl,by omega⟩
theorem afk:iq Tryz.prog 41 36 (.slice none 0 0) 1 24:=⟨Tryz.underlying41,by kernel_rfl,rfl,by omega⟩
theorem aaU:iq Tryz.prog 42 124 (.agg #[.bool false,iv 0,iv 0,iv 0]) 4 32:=⟨Tryz.underlying42,by kernel_rfl,rfl,by omega⟩
theorem aaV:iq Tryz.prog 37 122 (.agg #[iv 0,iv 0,iv 0]) 3 24:=⟨Tryz.underlying37,by kernel_rfl,rfl,by omega⟩
theorem YV (N:Nat) (w:World) (wb:Nat) (s:jI) (V:SV) (es:List KE) (ns:Value) (x y z:Int) (hO:jO N w wb s V es) (hn:ru N w ns [x,y,z]) (hG:Good s):Calls Tryz.prog 189 #[.pointer (some ⟨wb,0,none⟩),ns] w (qN N wb (jb s .AA [x,y,z]) w):=by
 obtain⟨vt,vn,vw,vu,vr,vh,vk,vs⟩:=V
 obtain⟨o,cc,rfl⟩: ∃o c,vr= .slice o s.heap.readings.length c:=aS (n:=s.heap.readings.length) (hO.rows.own 4 _ rfl)
 have HO:=ae hO
 have gz:=eF hO
 obtain⟨b,c,rfl,hbN,hcs⟩:=hn
 have lb:b<w.heap.size:=by omega
 have lw:=hO.rows.lt
 have vC:=hO.rows.base
 have HW:Hid (∀W,Below N w W->b<W.heap.size/\ ∀(j:Nat) (h:j<[x,y,z].length),W.cell? ⟨b,j,none⟩=some (iv [x,y,z][j])):=ae (fun W hB=>⟨by have:=hB.size;omega,fun j h=>(iY (hB.block b hbN)).trans (hcs j h)⟩)
 obtain⟨c0,f0,l0⟩:=af hO.blk
 have oD:=hcs 0 (by simp)
 simp only[au] at oD
 have n01:=hcs 1 (by simp)
 simp only[au] at n01
 have n02:=hcs 2 (by simp)
 simp only[au] at n02
 have HB0:Hid (Below w.heap.size w w):=ae (aG _ _)
 have hl4:=hG.heap.1
 have KJ:=hG.reads
 clear hO hcs hG
 go_enter Tryz.func189,Tryz.ntmps189
 go_wp2_with fail
 refine(xI x wb s _ w ((HB0.o.block _ lw).trans HO.o.blk) hl4).mono ?_
 rintro e W1 ⟨hb,⟨hc,rfl⟩|⟨hc,rfl⟩⟩
 rotate_left
 ·simp at hc
  simp only[jb,bT,bU,dw]
  (repeat (first|rw[aC (by omega)]|rw[ak (by omega)]))
  exact⟨rfl,(bg HB0.o hb).mono gz,.inr ⟨by simp,rfl⟩⟩
 simp at hc
 have HB1:=ae (bg HB0.o hb)
 have jK:=ae hc
 clear hb hc c0 f0 oD n01 n02
 obtain⟨c1,f1,l1⟩:=af ((HB1.o.block _ lw).trans HO.o.blk)
 obtain⟨vN,hcs1⟩:=HW.o W1 (HB1.o.mono gz)
 have n10:=hcs1 0 (by simp)
 simp only[au] at n10
 have n11:=hcs1 1 (by simp)
 simp only[au] at n11
 have n12:=hcs1 2 (by simp)
 simp only[au] at n12
 clear hcs1
 go_wp2_with fail
 refine zg 8 [] none [] ?_
 simp only[zt]
 repeat ((first|refine zd ?_|refine zk ?_);simp only[zp])
 intro W2 hE hF
 have HB2:=ae (bg HB1.o hE.below)
 clear hE hF c1 f1 vN n10 n11 n12
 obtain⟨c2,f2,l2⟩:=af ((HB2.o.block _ lw).trans HO.o.blk)
 obtain⟨wS,hcs2⟩:=HW.o W2 (HB2.o.mono gz)
 have n20:=hcs2 0 (by simp)
 simp only[au] at n20
 have n21:=hcs2 1 (by simp)
 simp only[au] at n21
 have n22:=hcs2 2 (by simp)
 simp only[au] at n22
 clear hcs2
 go_wp2_with fail
 refine(dV 2 [decide (1000<y),decide (50<z)] W2 (by simp) _ (by simp[dE]) _ _ rfl).mono ?_
 rintro e W3 ⟨hb,⟨hc,rfl⟩|⟨hc,rfl⟩⟩
 rotate_left
 ·simp at hc
  have q0:=jK.o
  simp only[jb,bT,bU,dw]
  (repeat (first|rw[aC (by omega)]|rw[ak (by omega)]))
  exact⟨rfl,(bg HB2.o hb).mono gz,.inr ⟨by simp,rfl⟩⟩
 simp at hc
 have HB3:=ae (bg HB2.o hb)
 have qO:=ae hc
 clear hb hc c2 f2 wS n20 n21 n22
 obtain⟨c3,f3,l3⟩:=af ((HB3.o.block _ lw).trans HO.o.blk)
 obtain⟨Je,hcs3⟩:=HW.o W3 (HB3.o.mono gz)
 have n30:=hcs3 0 (by simp)
 simp only[au] at n30
 have n31:=hcs3 1 (by simp)
 simp only[au] at n31
 have n32:=hcs3 2 (by simp)
 simp only[au] at n32
 clear hcs3
 go_wp2_with fail
 refine(qx _ _ _).mono ?_
 rintro e W4 ⟨hb,⟨hc,rfl⟩|⟨hc,rfl⟩⟩
 rotate_left
 ·simp at hc
  have q0:=jK.o
  have q1:=qO.o
  simp only[jb,bT,bU,dw]
  (repeat (first|rw[aC (by omega)]|rw[ak (by omega)]))
  exact⟨rfl,(bg HB3.o hb).mono gz,.inr ⟨by simp,rfl⟩⟩
 simp at hc
 have HB4:=ae (bg HB3.o hb)
 have wK:=ae hc
 clear hb hc c3 f3 Je n30 n31 n32
 obtain⟨c4,f4,l4⟩:=af ((HB4.o.block _ lw).trans HO.o.blk)
 obtain⟨Py,jV⟩:=HW.o W4 (HB4.o.mono gz)
 have n40:=jV 0 (by simp)
 simp only[au] at n40
 have n41:=jV 1 (by simp)
 simp only[au] at n41
 have n42:=jV 2 (by simp)
 simp only[au] at n42
 clear jV
 go_wp2_with fail
 obtain⟨Ms,hMs⟩: ∃Ms,Ms=(Value.slice o s.heap.readings.length cc).ownBlock.toList:=⟨_,rfl⟩
 have hO4:=HO.o.below HB4.o
 have hm1:wb∉Ms:=fun h=>hO4.rows.off 4 _ rfl (by rw[hMs] at h;exact dD.1 h)
 have hm2:b∉Ms:=fun h=>by have:=((hO4.rows.own 4 _ rfl).lt b (by rw[hMs] at h;exact dD.1 h)).1;omega
 have wH: ∀m∈Ms,m<W4.heap.size:=fun m h=>((hO4.rows.own 4 _ rfl).lt m (by rw[hMs] at h;exact dD.1 h)).2
 have HM:=ae hMs
 have jo:=ae hO4
 clear hMs hO4
 refine zg 19 Ms (some 18) [(17,Spec.slice W4.heap.size #[iv x,iv y,iv z] 122 1),(18,⟨fun _ v=> ∃o2 c2,v= .slice o2 (s.heap.readings.length+1) c2,fun _ v Wx=>Wx.ownsRow N 122 3 v (s.heap.readings.length+1) (aX s.heap.readings++[iv x,iv y,iv z])/\(v.ownBlock=(Value.slice o s.heap.readings.length cc).ownBlock∨ ∃q,v.ownBlock=some q/\W4.heap.size<=q)⟩)] ?_
 simp only[zt]
 repeat ((first|refine zd ?_|refine zk ?_);simp only[zp])
 refine dU W4.heap.size _ _ 1 (by rfl) (ai _) (by rfl) wH (by simp) (fun W hW=>by go_simp;try rfl) (fun b6=>?_)
 simp only[zp]
 repeat ((first|refine zd ?_|refine zk ?_);simp only[zp])
 refine bF _ (by rfl) (by rfl) (by exact⟨.slice none (s.heap.readings.length+1) 0,none,0,rfl⟩) (fun W6 hE hF=>?_) (fun v Wa Wb ho hE=>?_) (fun v hv=>?_)
 ·have hE':Ext [] W4 W6:=hE
  obtain⟨b',hb',hge,hcc⟩:=hF _ (bD _) (by kernel_rfl)
  cases hb'
  have hown6:W6.ownsRow N 122 3 (.slice o s.heap.readings.length cc) s.heap.readings.length (aX s.heap.readings):=aB (Ms:=[]) (jo.o.rows.own 4 _ rfl) hE' (by simp)
  have hsrc:aP 3 W6 (.slice (some ⟨b6,0,none⟩) 1 1) 1 ([iv x,iv y,iv z]):=aP.cZ 3 1 hcc rfl (by decide)
  refine Does.mono (dK aaV (by rfl) (by rfl) hown6 (by rfl) hsrc (Fa x y z) (by omega) (by omega) (by have:=hE'.size;have:=HB4.o.size;omega)) ?_
  rintro v' W7 ⟨ho,hgr,hcase⟩
  refine⟨aS ho,⟨ho,?_⟩,⟨hgr.os,hgr.tape,hgr.output,hgr.size,fun b hb hn=>hgr.block b hb (fun e=>hn (by rw[HM.o];exact dD.2 e.symm))⟩⟩
  rcases hcase with h1|h1
  ·exact .inl h1
  ·exact .inr ⟨_,h1,hE'.size⟩
 ·exact⟨aB (Ms:=[]) ho.1 hE (by simp),ho.2⟩
 obtain⟨o7,c7,rfl⟩:=hv
 simp only[zp]
 intro W5 hE hF
 obtain⟨ql,zF⟩:=hF _ (bD _)
 have gV:Ext Ms W4 W5:=hE
 have hbl:=(gV.block wb jo.o.rows.lt hm1).trans jo.o.blk
 obtain⟨c5,f5,l5⟩:=af hbl
 have iP:=ae (ag gV (ag ql (ag zF hbl)))
 have Dp:Below N w W5:=(HB4.o.mono gz).trans ⟨gV.os,gV.tape,gV.output,gV.size,fun k hk=>gV.block k (by have:=HB4.o.size;omega) (fun h=>by have:=((jo.o.rows.own 4 _ rfl).lt k (by rw[HM.o] at h;exact dD.1 h)).1;omega)⟩
 have pF:=ae Dp
 clear hE hF gV ql zF hbl Dp hm1 hm2 wH c4 f4 Py n40 n41 n42
 go_wp2_with fail
 go_end0
 have q0:=jK.o
 have q1:=qO.o
 have q2:=wK.o
 simp only[jb,bT,bU,dw]
 (repeat (first|rw[aC (by omega)]|rw[ak (by omega)]))
 refine⟨pF.o.setCell vC _,.inl ⟨rfl,rfl,⟨vt,vn,vw,vu,.slice o7 (s.heap.readings.length+1) c7,vh,vk,vs⟩,es,jo.o.put (i:=4) rfl ⟨122,3,.slice o7 (s.heap.readings.length+1) c7,s.heap.readings.length+1,aX s.heap.readings++[iv x,iv y,iv z]⟩ iP.o.1 (fun m hm=>by rw[HM.o] at hm;exact dD.1 hm) iP.o.2.1 iP.o.2.2.1 (aI iP.o.2.2.2 _) (by simp[iH,iL,aX]) (jo.o.es)⟩⟩
theorem note_any (N:Nat) (w:World) (wb:Nat) (s:jI) (V:SV) (es:List KE) (ns:Value) (x y z:Int) (hO:jO N w wb s V es) (hn:ru N w ns [x,y,z]) (hG:Good s):Calls Tryz.prog 183 #[.pointer (some ⟨wb,0,none⟩),ns] w (qN N wb (jb s .note [x,y,z]) w):=by
 obtain⟨vt,vn,vw,vu,vr,vh,vk,vs⟩:=V
 obtain⟨o,cc,rfl⟩: ∃o c,vn= .slice o s.led.notes.length c:=aS (n:=s.led.notes.length) (hO.rows.own 1 _ rfl)
 have HO:=ae hO
 have gz:=eF hO
 obtain⟨b,c,rfl,hbN,hcs⟩:=hn
 have lb:b<w.heap.size:=by omega
 have lw:=hO.rows.lt
 have vC:=hO.rows.base
 have HW:Hid (∀W,Below N w W->b<W.heap.size/\ ∀(j:Nat) (h:j<[x,y,z].length),W.cell? ⟨b,j,none⟩=some (iv [x,y,z][j])):=ae (fun W hB=>⟨by have:=hB.size;omega,fun j h=>(iY (hB.block b hbN)).trans (hcs j h)⟩)
 obtain⟨c0,f0,l0⟩:=af hO.blk
 have oD:=hcs 0 (by simp)
 simp only[au] at oD
 have n01:=hcs 1 (by simp)
 simp only[au] at n01
 have n02:=hcs 2 (by simp)
 simp only[au] at n02
 have HB0:Hid (Below w.heap.size w w):=ae (aG _ _)
 have KJ:=hG.notes
 have hwe:=hG.aK
 clear hO hcs hG
 go_enter Tryz.func183,Tryz.ntmps183
 go_wp2_with fail
 refine zg 10 [] none [] ?_
 simp only[zt]
 repeat ((first|refine zd ?_|refine zk ?_);simp only[zp])
 intro W1 hE hF
 have HB1:=ae (bg HB0.o hE.below)
 clear hE hF c0 f0 oD n01 n02
 obtain⟨c1,f1,l1⟩:=af ((HB1.o.block _ lw).trans HO.o.blk)
 obtain⟨vN,hcs1⟩:=HW.o W1 (HB1.o.mono gz)
 have n10:=hcs1 0 (by simp)
 simp only[au] at n10
 have n11:=hcs1 1 (by simp)
 simp only[au] at n11
 have n12:=hcs1 2 (by simp)
 simp only[au] at n12
 clear hcs1
 go_wp2_with fail
 refine(iZ _ _ _).mono ?_
 rintro e W2 ⟨hb,⟨hc,rfl⟩|⟨hc,rfl⟩⟩
 rotate_left
 ·simp at hc
  simp only[jb,bT,bU,dw]
  (repeat (first|rw[aC (by omega)]|rw[ak (by omega)]))
  exact⟨rfl,(bg HB1.o hb).mono gz,.inr ⟨by simp,rfl⟩⟩
 simp at hc
 have HB2:=ae (bg HB1.o hb)
 have HS2:=ae hb
 have jK:=ae hc
 clear hb hc c1 f1 vN n10 n11 n12
 obtain⟨c2,f2,l2⟩:=af ((HB2.o.block _ lw).trans HO.o.blk)
 obtain⟨wS,hcs2⟩:=HW.o W2 (HB2.o.mono gz)
 have n20:=hcs2 0 (by simp)
 simp only[au] at n20
 have n21:=hcs2 1 (by simp)
 simp only[au] at n21
 have n22:=hcs2 2 (by simp)
 simp only[au] at n22
 clear hcs2
 go_wp2_with fail
 refine RX.gm (fun ps W'=> ¬(y<=z/\z<=2000)/\ps=jW 2/\Below N w W') 12 [] none [(9,⟨fun _ v=>v=rv (y,z),fun _ _ _=>(y<=z/\z<=2000)⟩),(11,Spec.block W2.heap.size #[iv 0,iv 0,iv 0] 120)] (by rintro ps a1 Wx hdf ⟨h1,rfl,h3⟩;refine⟨hdf,vG (c:=2) h3 ?_ (by decide)⟩;have q0:=jK.o;simp only[jb,bT,bU,dw];(repeat (first|rw[aC (by omega)]|rw[ak (by omega)]))) (by as_aux_lemma=>kernel_rfl) (by as_aux_lemma=>kernel_rfl) ?_
 simp only[zt]
 repeat (refine RX.zd ?_;simp only[zp])
 refine RX.bF _ (by rfl) (by rfl) ⟨_,rfl⟩ (fun Wq hE2 hF2=>?_) (fun v Wa Wb ho hE=>ho) (fun v hv=>?_)
 ·have hE':Ext [] W2 Wq:=hE2
  refine RX.dn 253 #[iv y,iv z] (by go_simp;try rfl) ?_
  refine(uQ y z Wq).mono ?_
  rintro e w' ⟨hb,⟨hc,rfl⟩|⟨hc,rfl⟩⟩
  ·exact .inl ⟨_,rfl,rfl,hc,Ext.az hb⟩
  ·exact .inr ⟨_,rfl,hc,rfl,(bg HB2.o (bg hE'.below hb)).mono gz⟩
 obtain rfl:v=rv (y,z):=hv
 simp only[zp]
 repeat (refine RX.zd ?_;simp only[zp])
 refine RX.jQ W2.heap.size _ _ (by rfl) (ai _) (by rfl) (by simp) (by simp) (fun W hW=>by go_simp;try rfl) (fun b9=>?_)
 simp only[zp]
 intro Wb hE hF
 obtain⟨b9',vP,hge,hk9⟩:=hF _ (bD _)
 cases vP
 have hc:y<=z/\z<=2000:=hF _ (ng _ (bD _))
 have HBb:=ae (bg HB2.o (show Ext [] W2 Wb from hE).below)
 have qO:=ae hc
 have qR:=ae (ag (ja HB2.o.size hge) hk9)
 obtain⟨c9,f9,l9⟩:=af hk9
 clear hE hF hc hge hk9 c2 f2 wS n20 n21 n22
 go_upto_region 2 with(fail)
 refine dQ fun W3 pR=>?_
 have HB3:=ae (show Below w.heap.size w W3 from by rw[pR];exact(((HBb.o).setCell qR.o.1 _).setCell qR.o.1 _).setCell qR.o.1 _)
 have Cm:=ae (show W3.heap[b9]? =some (.cells #[iv x,iv y,iv z] 120 (0,0)) from by rw[pR];exact aI (aI (aI (qR.o.2) _) _) _)
 have YL:b9<W3.heap.size:=(aT.1 Cm.o).1
 clear pR c9 f9 l9
 obtain⟨c3,f3,l3⟩:=af ((HB3.o.block _ lw).trans HO.o.blk)
 obtain⟨Je,hcs3⟩:=HW.o W3 (HB3.o.mono gz)
 have n30:=hcs3 0 (by simp)
 simp only[au] at n30
 have n31:=hcs3 1 (by simp)
 simp only[au] at n31
 have n32:=hcs3 2 (by simp)
 simp only[au] at n32
 clear hcs3
 go_wp2_with fail
 refine(qx _ _ _).mono ?_
 rintro e W4 ⟨hb,⟨hc,rfl⟩|⟨hc,rfl⟩⟩
 rotate_left
 ·simp at hc
  have q0:=jK.o
  have q1:=qO.o
  simp only[jb,bT,bU,dw]
  (repeat (first|rw[aC (by omega)]|rw[ak (by omega)]))
  exact⟨rfl,(bg HB3.o hb).mono gz,.inr ⟨by simp,rfl⟩⟩
 simp at hc
 have HB4:=ae (bg HB3.o hb)
 have Uu:=ae hb
 have wK:=ae hc
 clear hb hc c3 f3 Je n30 n31 n32
 obtain⟨c4,f4,l4⟩:=af ((HB4.o.block _ lw).trans HO.o.blk)
 obtain⟨Py,jV⟩:=HW.o W4 (HB4.o.mono gz)
 have n40:=jV 0 (by simp)
 simp only[au] at n40
 have n41:=jV 1 (by simp)
 simp only[au] at n41
 have n42:=jV 2 (by simp)
 simp only[au] at n42
 clear jV
 go_wp2_with fail
 obtain⟨Ms,hMs⟩: ∃Ms,Ms=(Value.slice o s.led.notes.length cc).ownBlock.toList:=⟨_,rfl⟩
 have hO4:=HO.o.below HB4.o
 have hm1:wb∉Ms:=fun h=>hO4.rows.off 1 _ rfl (by rw[hMs] at h;exact dD.1 h)
 have hm2:b∉Ms:=fun h=>by have:=((hO4.rows.own 1 _ rfl).lt b (by rw[hMs] at h;exact dD.1 h)).1;omega
 have wH: ∀m∈Ms,m<W4.heap.size:=fun m h=>((hO4.rows.own 1 _ rfl).lt m (by rw[hMs] at h;exact dD.1 h)).2
 obtain⟨c9,f9,l9⟩:=af ((Uu.o.block _ YL).trans Cm.o)
 have hm9:b9∉Ms:=fun h=>by have:=((HO.o.rows.own 1 _ rfl).lt b9 (by rw[hMs] at h;exact dD.1 h)).2;have:=qR.o.1;omega
 have HM:=ae hMs
 have jo:=ae hO4
 clear hMs hO4
 refine zg 10 Ms (some 9) [(8,Spec.slice W4.heap.size #[iv x,iv y,iv z] 120 1),(9,⟨fun _ v=> ∃o2 c2,v= .slice o2 (s.led.notes.length+1) c2,fun _ v Wx=>Wx.ownsRow N 120 3 v (s.led.notes.length+1) (aX s.led.notes++[iv x,iv y,iv z])/\(v.ownBlock=(Value.slice o s.led.notes.length cc).ownBlock∨ ∃q,v.ownBlock=some q/\W4.heap.size<=q)⟩)] ?_
 simp only[zt]
 repeat ((first|refine zd ?_|refine zk ?_);simp only[zp])
 refine dU W4.heap.size _ _ 1 (by rfl) (ai _) (by rfl) wH (by simp) (fun W hW=>by go_simp;try rfl) (fun b6=>?_)
 simp only[zp]
 repeat ((first|refine zd ?_|refine zk ?_);simp only[zp])
 refine bF _ (by rfl) (by rfl) (by exact⟨.slice none (s.led.notes.length+1) 0,none,0,rfl⟩) (fun W6 hE hF=>?_) (fun v Wa Wb ho hE=>?_) (fun v hv=>?_)
 ·have hE':Ext [] W4 W6:=hE
  obtain⟨b',hb',hge,hcc⟩:=hF _ (bD _) (by kernel_rfl)
  cases hb'
  have hown6:W6.ownsRow N 120 3 (.slice o s.led.notes.length cc) s.led.notes.length (aX s.led.notes):=aB (Ms:=[]) (jo.o.rows.own 1 _ rfl) hE' (by simp)
  have hsrc:aP 3 W6 (.slice (some ⟨b6,0,none⟩) 1 1) 1 ([iv x,iv y,iv z]):=aP.cZ 3 1 hcc rfl (by decide)
  refine Does.mono (dK aaW (by rfl) (by rfl) hown6 (by rfl) hsrc (Fa x y z) (by omega) (by omega) (by have:=hE'.size;have:=HB4.o.size;omega)) ?_
  rintro v' W7 ⟨ho,hgr,hcase⟩
  refine⟨aS ho,⟨ho,?_⟩,⟨hgr.os,hgr.tape,hgr.output,hgr.size,fun b hb hn=>hgr.block b hb (fun e=>hn (by rw[HM.o];exact dD.2 e.symm))⟩⟩
  rcases hcase with h1|h1
  ·exact .inl h1
  ·exact .inr ⟨_,h1,hE'.size⟩
 ·exact⟨aB (Ms:=[]) ho.1 hE (by simp),ho.2⟩
 obtain⟨o7,c7,rfl⟩:=hv
 simp only[zp]
 intro W5 hE hF
 obtain⟨ql,zF⟩:=hF _ (bD _)
 have gV:Ext Ms W4 W5:=hE
 have hbl:=(gV.block wb jo.o.rows.lt hm1).trans jo.o.blk
 obtain⟨c5,f5,l5⟩:=af hbl
 have iP:=ae (ag gV (ag ql (ag zF hbl)))
 have Dp:Below N w W5:=(HB4.o.mono gz).trans ⟨gV.os,gV.tape,gV.output,gV.size,fun k hk=>gV.block k (by have:=HB4.o.size;omega) (fun h=>by have:=((jo.o.rows.own 1 _ rfl).lt k (by rw[HM.o] at h;exact dD.1 h)).1;omega)⟩
 have pF:=ae Dp
 clear hE hF gV ql zF hbl Dp hm1 hm2 wH c4 f4 Py n40 n41 n42
 go_wp2_with fail
 go_end0
 have q0:=jK.o
 have q1:=qO.o
 have q2:=wK.o
 simp only[jb,bT,bU,dw]
 (repeat (first|rw[aC (by omega)]|rw[ak (by omega)]))
 refine⟨pF.o.setCell vC _,.inl ⟨rfl,rfl,⟨vt,.slice o7 (s.led.notes.length+1) c7,vw,vu,vr,vh,vk,vs⟩,es,jo.o.put (i:=1) rfl ⟨120,3,.slice o7 (s.led.notes.length+1) c7,s.led.notes.length+1,aX s.led.notes++[iv x,iv y,iv z]⟩ iP.o.1 (fun m hm=>by rw[HM.o] at hm;exact dD.1 hm) iP.o.2.1 iP.o.2.2.1 (aI iP.o.2.2.2 _) (by simp[iH,nU,aX]) (jo.o.es)⟩⟩
theorem JS (N:Nat) (w:World) (wb:Nat) (s:jI) (V:SV) (es:List KE) (ns:Value) (x y z p q:Int) (hO:jO N w wb s V es) (hn:ru N w ns [x,y,z,p,q]) (hG:Good s) (hyz:y<z):Calls Tryz.prog 178 #[.pointer (some ⟨wb,0,none⟩),ns] w (qN N wb (jb s .tally [x,y,z,p,q]) w):=by
 obtain⟨vt,vn,vw,vu,vr,vh,vk,vs⟩:=V
 obtain⟨o,cc,rfl⟩: ∃o c,vt= .slice o s.led.field.ax.length c:=aS (n:=s.led.field.ax.length) (hO.rows.own 0 _ rfl)
 have HO:=ae hO
 have gz:=eF hO
 obtain⟨b,c,rfl,hbN,hcs⟩:=hn
 have lb:b<w.heap.size:=by omega
 have lw:=hO.rows.lt
 have vC:=hO.rows.base
 have HW:Hid (∀W,Below N w W->b<W.heap.size/\ ∀(j:Nat) (h:j<[x,y,z,p,q].length),W.cell? ⟨b,j,none⟩=some (iv [x,y,z,p,q][j])):=ae (fun W hB=>⟨by have:=hB.size;omega,fun j h=>(iY (hB.block b hbN)).trans (hcs j h)⟩)
 obtain⟨c0,f0,l0⟩:=af hO.blk
 have oD:=hcs 0 (by simp)
 simp only[au] at oD
 have n01:=hcs 1 (by simp)
 simp only[au] at n01
 have n02:=hcs 2 (by simp)
 simp only[au] at n02
 have n03:=hcs 3 (by simp)
 simp only[au] at n03
 have n04:=hcs 4 (by simp)
 simp only[au] at n04
 have HB0:Hid (Below w.heap.size w w):=ae (aG _ _)
 have KJ:=hG.D7
 have hwe:=hG.aK
 have jK:=ae hyz
 clear hO hcs hG
 go_enter Tryz.func178,Tryz.ntmps178
 go_wp2_with fail
 refine zg 7 [] none [] ?_
 simp only[zt]
 repeat ((first|refine zd ?_|refine zk ?_);simp only[zp])
 intro W1 hE hF
 have HB1:=ae (bg HB0.o hE.below)
 clear hE hF c0 f0 oD n01 n02 n03 n04
 obtain⟨c1,f1,l1⟩:=af ((HB1.o.block _ lw).trans HO.o.blk)
 obtain⟨vN,hcs1⟩:=HW.o W1 (HB1.o.mono gz)
 have n10:=hcs1 0 (by simp)
 simp only[au] at n10
 have n11:=hcs1 1 (by simp)
 simp only[au] at n11
 have n12:=hcs1 2 (by simp)
 simp only[au] at n12
 have n13:=hcs1 3 (by simp)
 simp only[au] at n13
 have n14:=hcs1 4 (by simp)
 simp only[au] at n14
 clear hcs1
 go_wp2_with fail
 refine(iZ _ _ _).mono ?_
 rintro e W2 ⟨hb,⟨hc,rfl⟩|⟨hc,rfl⟩⟩
 rotate_left
 ·simp at hc
  have q0:=jK.o
  simp only[jb,bT,bU,dw]
  (repeat (first|rw[aC (by omega)]|rw[ak (by omega)]))
  exact⟨rfl,(bg HB1.o hb).mono gz,.inr ⟨by simp,rfl⟩⟩
 simp at hc
 have HB2:=ae (bg HB1.o hb)
 have HS2:=ae hb
 have qO:=ae hc
 clear hb hc c1 f1 vN n10 n11 n12 n13 n14
 obtain⟨c2,f2,l2⟩:=af ((HB2.o.block _ lw).trans HO.o.blk)
 obtain⟨wS,hcs2⟩:=HW.o W2 (HB2.o.mono gz)
 have n20:=hcs2 0 (by simp)
 simp only[au] at n20
 have n21:=hcs2 1 (by simp)
 simp only[au] at n21
 have n22:=hcs2 2 (by simp)
 simp only[au] at n22
 have n23:=hcs2 3 (by simp)
 simp only[au] at n23
 have n24:=hcs2 4 (by simp)
 simp only[au] at n24
 clear hcs2
 go_wp2_with fail
 refine zg 11 [] none [] ?_
 simp only[zt]
 repeat ((first|refine zd ?_|refine zk ?_);simp only[zp])
 intro W3 hE hF
 have HB3:=ae (bg HB2.o hE.below)
 clear hE hF c2 f2 wS n20 n21 n22 n23 n24
 obtain⟨c3,f3,l3⟩:=af ((HB3.o.block _ lw).trans HO.o.blk)
 obtain⟨Je,hcs3⟩:=HW.o W3 (HB3.o.mono gz)
 have n30:=hcs3 0 (by simp)
 simp only[au] at n30
 have n31:=hcs3 1 (by simp)
 simp only[au] at n31
 have n32:=hcs3 2 (by simp)
 simp only[au] at n32
 have n33:=hcs3 3 (by simp)
 simp only[au] at n33
 have n34:=hcs3 4 (by simp)
 simp only[au] at n34
 clear hcs3
 go_wp2_with fail
 clear hyz
 refine(iZ _ _ _).mono ?_
 rintro e W4 ⟨hb,⟨hc,rfl⟩|⟨hc,rfl⟩⟩
 rotate_left
 ·simp at hc
  have q0:=jK.o
  have q1:=qO.o
  simp only[jb,bT,bU,dw]
  (repeat (first|rw[aC (by omega)]|rw[ak (by omega)]))
  exact⟨rfl,(bg HB3.o hb).mono gz,.inr ⟨by simp,rfl⟩⟩
 simp at hc
 have HB4:=ae (bg HB3.o hb)
 have Uu:=ae hb
 have wK:=ae hc
 clear hb hc c3 f3 Je n30 n31 n32 n33 n34
 obtain⟨c4,f4,l4⟩:=af ((HB4.o.block _ lw).trans HO.o.blk)
 obtain⟨Py,jV⟩:=HW.o W4 (HB4.o.mono gz)
 have n40:=jV 0 (by simp)
 simp only[au] at n40
 have n41:=jV 1 (by simp)
 simp only[au] at n41
 have n42:=jV 2 (by simp)
 simp only[au] at n42
 have n43:=jV 3 (by simp)
 simp only[au] at n43
 have n44:=jV 4 (by simp)
 simp only[au] at n44
 clear jV
 go_wp2_with fail
 refine zg 6 [] none [] ?_
 simp only[zt]
 repeat ((first|refine zd ?_|refine zk ?_);simp only[zp])
 intro W5 hE hF
 have pz:=ae (bg HB4.o hE.below)
 clear hE hF c4 f4 Py n40 n41 n42 n43 n44
 obtain⟨c5,f5,l5⟩:=af ((pz.o.block _ lw).trans HO.o.blk)
 obtain⟨lb5,tV⟩:=HW.o W5 (pz.o.mono gz)
 have n50:=tV 0 (by simp)
 simp only[au] at n50
 have n51:=tV 1 (by simp)
 simp only[au] at n51
 have n52:=tV 2 (by simp)
 simp only[au] at n52
 have n53:=tV 3 (by simp)
 simp only[au] at n53
 have n54:=tV 4 (by simp)
 simp only[au] at n54
 clear tV
 go_wp2_with fail
 refine(dV 2 [decide (z<y)] W5 (by simp) _ (by simp[dE]) _ _ rfl).mono ?_
 rintro e W6 ⟨hb,⟨hc,rfl⟩|⟨hc,rfl⟩⟩
 rotate_left
 ·simp at hc
  have q0:=jK.o
  have q1:=qO.o
  have q2:=wK.o
  (exfalso;omega)
 simp at hc
 have qo:=ae (bg pz.o hb)
 have HS6:=ae hb
 have Ha:=ae hc
 clear hb hc c5 f5 lb5 n50 n51 n52 n53 n54
 obtain⟨c6,f6,l6⟩:=af ((qo.o.block _ lw).trans HO.o.blk)
 obtain⟨lb6,tN⟩:=HW.o W6 (qo.o.mono gz)
 have n60:=tN 0 (by simp)
 simp only[au] at n60
 have n61:=tN 1 (by simp)
 simp only[au] at n61
 have n62:=tN 2 (by simp)
 simp only[au] at n62
 have n63:=tN 3 (by simp)
 simp only[au] at n63
 have n64:=tN 4 (by simp)
 simp only[au] at n64
 clear tN
 go_wp2_with fail
 refine RX.gm (fun ps W'=> ¬(p<=q/\q<=s.led.field.rows)/\ps=jW 2/\Below N w W') 19 [] none [(16,⟨fun _ v=>v=rv (p,q),fun _ _ _=>(p<=q/\q<=s.led.field.rows)⟩),(18,Spec.block W6.heap.size #[iv 0,iv 0,iv 0,iv 0,iv 0] 118)] (by rintro ps a1 Wx hdf ⟨h1,rfl,h3⟩;refine⟨hdf,vG (c:=2) h3 ?_ (by decide)⟩;have q0:=jK.o;have q1:=qO.o;have q2:=wK.o;have q3:=Ha.o;simp only[jb,bT,bU,dw];(repeat (first|rw[aC (by omega)]|rw[ak (by omega)]))) (by as_aux_lemma=>kernel_rfl) (by as_aux_lemma=>kernel_rfl) ?_
 simp only[zt]
 repeat (refine RX.zd ?_;simp only[zp])
 refine RX.bF _ (by rfl) (by rfl) ⟨_,rfl⟩ (fun Wq hE2 hF2=>?_) (fun v Wa Wb ho hE=>ho) (fun v hv=>?_)
 ·have hE':Ext [] W6 Wq:=hE2
  refine RX.dn 250 #[.pointer (some ⟨wb,0,none⟩),iv p,iv q] (by go_simp;try rfl) ?_
  refine(uq p q wb s _ Wq ((hE'.block _ (gy lw qo.o.size) (by simp)).trans ((qo.o.block _ lw).trans HO.o.blk))).mono ?_
  rintro e w' ⟨hb,⟨hc,rfl⟩|⟨hc,rfl⟩⟩
  ·exact .inl ⟨_,rfl,rfl,hc,Ext.az hb⟩
  ·exact .inr ⟨_,rfl,hc,rfl,(bg qo.o (bg hE'.below hb)).mono gz⟩
 obtain rfl:v=rv (p,q):=hv
 simp only[zp]
 repeat (refine RX.zd ?_;simp only[zp])
 refine RX.jQ W6.heap.size _ _ (by rfl) (ai _) (by rfl) (by simp) (by simp) (fun W hW=>by go_simp;try rfl) (fun b9=>?_)
 simp only[zp]
 intro Wb hE hF
 obtain⟨b9',vP,hge,hk9⟩:=hF _ (bD _)
 cases vP
 have hc:p<=q/\q<=s.led.field.rows:=hF _ (ng _ (bD _))
 have HBb:=ae (bg qo.o (show Ext [] W6 Wb from hE).below)
 have Uw:=ae hc
 have qR:=ae (ag (ja qo.o.size hge) hk9)
 obtain⟨c9,f9,l9⟩:=af hk9
 clear hE hF hc hge hk9 c6 f6 lb6 n60 n61 n62 n63 n64
 go_upto_region 5 with(fail)
 refine dQ fun W7 pR=>?_
 have yZ:=ae (show Below w.heap.size w W7 from by rw[pR];exact(((((HBb.o).setCell qR.o.1 _).setCell qR.o.1 _).setCell qR.o.1 _).setCell qR.o.1 _).setCell qR.o.1 _)
 have Cm:=ae (show W7.heap[b9]? =some (.cells #[iv x,iv y,iv z,iv p,iv q] 118 (0,0)) from by rw[pR];exact aI (aI (aI (aI (aI (qR.o.2) _) _) _) _) _)
 have YL:b9<W7.heap.size:=(aT.1 Cm.o).1
 clear pR c9 f9 l9
 obtain⟨c7,f7,l7⟩:=af ((yZ.o.block _ lw).trans HO.o.blk)
 obtain⟨lb7,tK⟩:=HW.o W7 (yZ.o.mono gz)
 have n70:=tK 0 (by simp)
 simp only[au] at n70
 have n71:=tK 1 (by simp)
 simp only[au] at n71
 have n72:=tK 2 (by simp)
 simp only[au] at n72
 have n73:=tK 3 (by simp)
 simp only[au] at n73
 have n74:=tK 4 (by simp)
 simp only[au] at n74
 clear tK
 go_wp2_with fail
 refine(qx _ _ _).mono ?_
 rintro e W8 ⟨hb,⟨hc,rfl⟩|⟨hc,rfl⟩⟩
 rotate_left
 ·simp at hc
  have q0:=jK.o
  have q1:=qO.o
  have q2:=wK.o
  have q3:=Ha.o
  have q4:=Uw.o
  simp only[jb,bT,bU,dw]
  (repeat (first|rw[aC (by omega)]|rw[ak (by omega)]))
  exact⟨rfl,(bg yZ.o hb).mono gz,.inr ⟨by simp,rfl⟩⟩
 simp at hc
 have pF:=ae (bg yZ.o hb)
 have HS8:=ae hb
 have HQ5:=ae hc
 clear hb hc c7 f7 lb7 n70 n71 n72 n73 n74
 obtain⟨c8,f8,l8⟩:=af ((pF.o.block _ lw).trans HO.o.blk)
 obtain⟨lb8,BQ⟩:=HW.o W8 (pF.o.mono gz)
 have n80:=BQ 0 (by simp)
 simp only[au] at n80
 have n81:=BQ 1 (by simp)
 simp only[au] at n81
 have n82:=BQ 2 (by simp)
 simp only[au] at n82
 have n83:=BQ 3 (by simp)
 simp only[au] at n83
 have n84:=BQ 4 (by simp)
 simp only[au] at n84
 clear BQ
 go_wp2_with fail
 obtain⟨Ms,hMs⟩: ∃Ms,Ms=(Value.slice o s.led.field.ax.length cc).ownBlock.toList:=⟨_,rfl⟩
 have F6:=HO.o.below pF.o
 have hm1:wb∉Ms:=fun h=>F6.rows.off 0 _ rfl (by rw[hMs] at h;exact dD.1 h)
 have hm2:b∉Ms:=fun h=>by have:=((F6.rows.own 0 _ rfl).lt b (by rw[hMs] at h;exact dD.1 h)).1;omega
 have wH: ∀m∈Ms,m<W8.heap.size:=fun m h=>((F6.rows.own 0 _ rfl).lt m (by rw[hMs] at h;exact dD.1 h)).2
 obtain⟨c9,f9,l9⟩:=af ((HS8.o.block _ YL).trans Cm.o)
 have hm9:b9∉Ms:=fun h=>by have:=((HO.o.rows.own 0 _ rfl).lt b9 (by rw[hMs] at h;exact dD.1 h)).2;have:=qR.o.1;omega
 have HM:=ae hMs
 have jo:=ae F6
 clear hMs F6
 refine zg 8 Ms (some 7) [(6,Spec.slice W8.heap.size #[iv x,iv y,iv z,iv p,iv q] 118 1),(7,⟨fun _ v=> ∃o2 c2,v= .slice o2 (s.led.field.ax.length+1) c2,fun _ v Wx=>Wx.ownsRow N 118 5 v (s.led.field.ax.length+1) (dJ s.led.field.ax++[iv x,iv y,iv z,iv p,iv q])/\(v.ownBlock=(Value.slice o s.led.field.ax.length cc).ownBlock∨ ∃q,v.ownBlock=some q/\W8.heap.size<=q)⟩)] ?_
 simp only[zt]
 repeat ((first|refine zd ?_|refine zk ?_);simp only[zp])
 refine dU W8.heap.size _ _ 1 (by rfl) (ai _) (by rfl) wH (by simp) (fun W hW=>by go_simp;try rfl) (fun b6=>?_)
 simp only[zp]
 repeat ((first|refine zd ?_|refine zk ?_);simp only[zp])
 refine bF _ (by rfl) (by rfl) (by exact⟨.slice none (s.led.field.ax.length+1) 0,none,0,rfl⟩) (fun W6 hE hF=>?_) (fun v Wa Wb ho hE=>?_) (fun v hv=>?_)
 ·have hE':Ext [] W8 W6:=hE
  obtain⟨b',hb',hge,hcc⟩:=hF _ (bD _) (by kernel_rfl)
  cases hb'
  have hown6:W6.ownsRow N 118 5 (.slice o s.led.field.ax.length cc) s.led.field.ax.length (dJ s.led.field.ax):=aB (Ms:=[]) (jo.o.rows.own 0 _ rfl) hE' (by simp)
  have hsrc:aP 5 W6 (.slice (some ⟨b6,0,none⟩) 1 1) 1 ([iv x,iv y,iv z,iv p,iv q]):=aP.cZ 5 1 hcc rfl (by decide)
  refine Does.mono (dK XU (by rfl) (by rfl) hown6 (by rfl) hsrc (Nj x y z p q) (by omega) (by omega) (by have:=hE'.size;have:=pF.o.size;omega)) ?_
  rintro v' W7 ⟨ho,hgr,hcase⟩
  refine⟨aS ho,⟨ho,?_⟩,⟨hgr.os,hgr.tape,hgr.output,hgr.size,fun b hb hn=>hgr.block b hb (fun e=>hn (by rw[HM.o];exact dD.2 e.symm))⟩⟩
  rcases hcase with h1|h1
  ·exact .inl h1
  ·exact .inr ⟨_,h1,hE'.size⟩
 ·exact⟨aB (Ms:=[]) ho.1 hE (by simp),ho.2⟩
 obtain⟨o7,c7,rfl⟩:=hv
 simp only[zp]
 intro W9 hE hF
 obtain⟨ql,zF⟩:=hF _ (bD _)
 have gV:Ext Ms W8 W9:=hE
 have hbl:=(gV.block wb jo.o.rows.lt hm1).trans jo.o.blk
 obtain⟨c9,f9,l9⟩:=af hbl
 have iP:=ae (ag gV (ag ql (ag zF hbl)))
 have Dp:Below N w W9:=(pF.o.mono gz).trans ⟨gV.os,gV.tape,gV.output,gV.size,fun k hk=>gV.block k (by have:=pF.o.size;omega) (fun h=>by have:=((jo.o.rows.own 0 _ rfl).lt k (by rw[HM.o] at h;exact dD.1 h)).1;omega)⟩
 have pF:=ae Dp
 clear hE hF gV ql zF hbl Dp hm1 hm2 wH c8 f8 lb8 n80 n81 n82 n83 n84
 go_wp2_with fail
 go_end0
 have q0:=jK.o
 have q1:=qO.o
 have q2:=wK.o
 have q3:=Ha.o
 have q4:=Uw.o
 have q5:=HQ5.o
 simp only[jb,bT,bU,dw]
 (repeat (first|rw[aC (by omega)]|rw[ak (by omega)]))
 refine⟨pF.o.setCell vC _,.inl ⟨rfl,rfl,⟨.slice o7 (s.led.field.ax.length+1) c7,vn,vw,vu,vr,vh,vk,vs⟩,es,jo.o.put (i:=0) rfl ⟨118,5,.slice o7 (s.led.field.ax.length+1) c7,s.led.field.ax.length+1,dJ s.led.field.ax++[iv x,iv y,iv z,iv p,iv q]⟩ iP.o.1 (fun m hm=>by rw[HM.o] at hm;exact dD.1 hm) iP.o.2.1 iP.o.2.2.1 (aI iP.o.2.2.2 _) (by simp[iH,mP,dJ]) (jo.o.es)⟩⟩
theorem JU (N:Nat) (w:World) (wb:Nat) (s:jI) (V:SV) (es:List KE) (ns:Value) (x y z p q:Int) (hO:jO N w wb s V es) (hn:ru N w ns [x,y,z,p,q]) (hG:Good s) (hyz:z<=y):Calls Tryz.prog 178 #[.pointer (some ⟨wb,0,none⟩),ns] w (qN N wb (jb s .tally [x,y,z,p,q]) w):=by
 obtain⟨vt,vn,vw,vu,vr,vh,vk,vs⟩:=V
 obtain⟨o,cc,rfl⟩: ∃o c,vt= .slice o s.led.field.ax.length c:=aS (n:=s.led.field.ax.length) (hO.rows.own 0 _ rfl)
 have HO:=ae hO
 have gz:=eF hO
 obtain⟨b,c,rfl,hbN,hcs⟩:=hn
 have lb:b<w.heap.size:=by omega
 have lw:=hO.rows.lt
 have vC:=hO.rows.base
 have HW:Hid (∀W,Below N w W->b<W.heap.size/\ ∀(j:Nat) (h:j<[x,y,z,p,q].length),W.cell? ⟨b,j,none⟩=some (iv [x,y,z,p,q][j])):=ae (fun W hB=>⟨by have:=hB.size;omega,fun j h=>(iY (hB.block b hbN)).trans (hcs j h)⟩)
 obtain⟨c0,f0,l0⟩:=af hO.blk
 have oD:=hcs 0 (by simp)
 simp only[au] at oD
 have n01:=hcs 1 (by simp)
 simp only[au] at n01
 have n02:=hcs 2 (by simp)
 simp only[au] at n02
 have n03:=hcs 3 (by simp)
 simp only[au] at n03
 have n04:=hcs 4 (by simp)
 simp only[au] at n04
 have HB0:Hid (Below w.heap.size w w):=ae (aG _ _)
 have KJ:=hG.D7
 have hwe:=hG.aK
 have jK:=ae hyz
 clear hO hcs hG
 go_enter Tryz.func178,Tryz.ntmps178
 go_wp2_with fail
 refine zg 7 [] none [] ?_
 simp only[zt]
 repeat ((first|refine zd ?_|refine zk ?_);simp only[zp])
 intro W1 hE hF
 have HB1:=ae (bg HB0.o hE.below)
 clear hE hF c0 f0 oD n01 n02 n03 n04
 obtain⟨c1,f1,l1⟩:=af ((HB1.o.block _ lw).trans HO.o.blk)
 obtain⟨vN,hcs1⟩:=HW.o W1 (HB1.o.mono gz)
 have n10:=hcs1 0 (by simp)
 simp only[au] at n10
 have n11:=hcs1 1 (by simp)
 simp only[au] at n11
 have n12:=hcs1 2 (by simp)
 simp only[au] at n12
 have n13:=hcs1 3 (by simp)
 simp only[au] at n13
 have n14:=hcs1 4 (by simp)
 simp only[au] at n14
 clear hcs1
 go_wp2_with fail
 refine(iZ _ _ _).mono ?_
 rintro e W2 ⟨hb,⟨hc,rfl⟩|⟨hc,rfl⟩⟩
 rotate_left
 ·simp at hc
  have q0:=jK.o
  simp only[jb,bT,bU,dw]
  (repeat (first|rw[aC (by omega)]|rw[ak (by omega)]))
  exact⟨rfl,(bg HB1.o hb).mono gz,.inr ⟨by simp,rfl⟩⟩
 simp at hc
 have HB2:=ae (bg HB1.o hb)
 have HS2:=ae hb
 have qO:=ae hc
 clear hb hc c1 f1 vN n10 n11 n12 n13 n14
 obtain⟨c2,f2,l2⟩:=af ((HB2.o.block _ lw).trans HO.o.blk)
 obtain⟨wS,hcs2⟩:=HW.o W2 (HB2.o.mono gz)
 have n20:=hcs2 0 (by simp)
 simp only[au] at n20
 have n21:=hcs2 1 (by simp)
 simp only[au] at n21
 have n22:=hcs2 2 (by simp)
 simp only[au] at n22
 have n23:=hcs2 3 (by simp)
 simp only[au] at n23
 have n24:=hcs2 4 (by simp)
 simp only[au] at n24
 clear hcs2
 go_wp2_with fail
 refine zg 11 [] none [] ?_
 simp only[zt]
 repeat ((first|refine zd ?_|refine zk ?_);simp only[zp])
 intro W3 hE hF
 have HB3:=ae (bg HB2.o hE.below)
 clear hE hF c2 f2 wS n20 n21 n22 n23 n24
 obtain⟨c3,f3,l3⟩:=af ((HB3.o.block _ lw).trans HO.o.blk)
 obtain⟨Je,hcs3⟩:=HW.o W3 (HB3.o.mono gz)
 have n30:=hcs3 0 (by simp)
 simp only[au] at n30
 have n31:=hcs3 1 (by simp)
 simp only[au] at n31
 have n32:=hcs3 2 (by simp)
 simp only[au] at n32
 have n33:=hcs3 3 (by simp)
 simp only[au] at n33
 have n34:=hcs3 4 (by simp)
 simp only[au] at n34
 clear hcs3
 go_wp2_with fail
 clear hyz
 refine(iZ _ _ _).mono ?_
 rintro e W4 ⟨hb,⟨hc,rfl⟩|⟨hc,rfl⟩⟩
 rotate_left
 ·simp at hc
  have q0:=jK.o
  have q1:=qO.o
  simp only[jb,bT,bU,dw]
  (repeat (first|rw[aC (by omega)]|rw[ak (by omega)]))
  exact⟨rfl,(bg HB3.o hb).mono gz,.inr ⟨by simp,rfl⟩⟩
 simp at hc
 have HB4:=ae (bg HB3.o hb)
 have Uu:=ae hb
 have wK:=ae hc
 clear hb hc c3 f3 Je n30 n31 n32 n33 n34
 obtain⟨c4,f4,l4⟩:=af ((HB4.o.block _ lw).trans HO.o.blk)
 obtain⟨Py,jV⟩:=HW.o W4 (HB4.o.mono gz)
 have n40:=jV 0 (by simp)
 simp only[au] at n40
 have n41:=jV 1 (by simp)
 simp only[au] at n41
 have n42:=jV 2 (by simp)
 simp only[au] at n42
 have n43:=jV 3 (by simp)
 simp only[au] at n43
 have n44:=jV 4 (by simp)
 simp only[au] at n44
 clear jV
 go_wp2_with fail
 refine zg 6 [] none [] ?_
 simp only[zt]
 repeat ((first|refine zd ?_|refine zk ?_);simp only[zp])
 intro W5 hE hF
 have pz:=ae (bg HB4.o hE.below)
 clear hE hF c4 f4 Py n40 n41 n42 n43 n44
 obtain⟨c5,f5,l5⟩:=af ((pz.o.block _ lw).trans HO.o.blk)
 obtain⟨lb5,tV⟩:=HW.o W5 (pz.o.mono gz)
 have n50:=tV 0 (by simp)
 simp only[au] at n50
 have n51:=tV 1 (by simp)
 simp only[au] at n51
 have n52:=tV 2 (by simp)
 simp only[au] at n52
 have n53:=tV 3 (by simp)
 simp only[au] at n53
 have n54:=tV 4 (by simp)
 simp only[au] at n54
 clear tV
 go_wp2_with fail
 refine(dV 2 [decide (z<y)] W5 (by simp) _ (by simp[dE]) _ _ rfl).mono ?_
 rintro e W6 ⟨hb,⟨hc,rfl⟩|⟨hc,rfl⟩⟩
 rotate_left
 ·simp at hc
  have q0:=jK.o
  have q1:=qO.o
  have q2:=wK.o
  simp only[jb,bT,bU,dw]
  (repeat (first|rw[aC (by omega)]|rw[ak (by omega)]))
  exact⟨rfl,(bg pz.o hb).mono gz,.inr ⟨by simp,rfl⟩⟩
 simp at hc
 have qo:=ae (bg pz.o hb)
 have HS6:=ae hb
 have Ha:=ae hc
 clear hb hc c5 f5 lb5 n50 n51 n52 n53 n54
 obtain⟨c6,f6,l6⟩:=af ((qo.o.block _ lw).trans HO.o.blk)
 obtain⟨lb6,tN⟩:=HW.o W6 (qo.o.mono gz)
 have n60:=tN 0 (by simp)
 simp only[au] at n60
 have n61:=tN 1 (by simp)
 simp only[au] at n61
 have n62:=tN 2 (by simp)
 simp only[au] at n62
 have n63:=tN 3 (by simp)
 simp only[au] at n63
 have n64:=tN 4 (by simp)
 simp only[au] at n64
 clear tN
 go_wp2_with fail
 refine RX.gm (fun ps W'=> ¬(p<=q/\q<=s.led.field.rows)/\ps=jW 2/\Below N w W') 19 [] none [(16,⟨fun _ v=>v=rv (p,q),fun _ _ _=>(p<=q/\q<=s.led.field.rows)⟩),(18,Spec.block W6.heap.size #[iv 0,iv 0,iv 0,iv 0,iv 0] 118)] (by rintro ps a1 Wx hdf ⟨h1,rfl,h3⟩;refine⟨hdf,vG (c:=2) h3 ?_ (by decide)⟩;have q0:=jK.o;have q1:=qO.o;have q2:=wK.o;have q3:=Ha.o;simp only[jb,bT,bU,dw];(repeat (first|rw[aC (by omega)]|rw[ak (by omega)]))) (by as_aux_lemma=>kernel_rfl) (by as_aux_lemma=>kernel_rfl) ?_
 simp only[zt]
 repeat (refine RX.zd ?_;simp only[zp])
 refine RX.bF _ (by rfl) (by rfl) ⟨_,rfl⟩ (fun Wq hE2 hF2=>?_) (fun v Wa Wb ho hE=>ho) (fun v hv=>?_)
 ·have hE':Ext [] W6 Wq:=hE2
  refine RX.dn 250 #[.pointer (some ⟨wb,0,none⟩),iv p,iv q] (by go_simp;try rfl) ?_
  refine(uq p q wb s _ Wq ((hE'.block _ (gy lw qo.o.size) (by simp)).trans ((qo.o.block _ lw).trans HO.o.blk))).mono ?_
  rintro e w' ⟨hb,⟨hc,rfl⟩|⟨hc,rfl⟩⟩
  ·exact .inl ⟨_,rfl,rfl,hc,Ext.az hb⟩
  ·exact .inr ⟨_,rfl,hc,rfl,(bg qo.o (bg hE'.below hb)).mono gz⟩
 obtain rfl:v=rv (p,q):=hv
 simp only[zp]
 repeat (refine RX.zd ?_;simp only[zp])
 refine RX.jQ W6.heap.size _ _ (by rfl) (ai _) (by rfl) (by simp) (by simp) (fun W hW=>by go_simp;try rfl) (fun b9=>?_)
 simp only[zp]
 intro Wb hE hF
 obtain⟨b9',vP,hge,hk9⟩:=hF _ (bD _)
 cases vP
 have hc:p<=q/\q<=s.led.field.rows:=hF _ (ng _ (bD _))
 have HBb:=ae (bg qo.o (show Ext [] W6 Wb from hE).below)
 have Uw:=ae hc
 have qR:=ae (ag (ja qo.o.size hge) hk9)
 obtain⟨c9,f9,l9⟩:=af hk9
 clear hE hF hc hge hk9 c6 f6 lb6 n60 n61 n62 n63 n64
 go_upto_region 5 with(fail)
 refine dQ fun W7 pR=>?_
 have yZ:=ae (show Below w.heap.size w W7 from by rw[pR];exact(((((HBb.o).setCell qR.o.1 _).setCell qR.o.1 _).setCell qR.o.1 _).setCell qR.o.1 _).setCell qR.o.1 _)
 have Cm:=ae (show W7.heap[b9]? =some (.cells #[iv x,iv y,iv z,iv p,iv q] 118 (0,0)) from by rw[pR];exact aI (aI (aI (aI (aI (qR.o.2) _) _) _) _) _)
 have YL:b9<W7.heap.size:=(aT.1 Cm.o).1
 clear pR c9 f9 l9
 obtain⟨c7,f7,l7⟩:=af ((yZ.o.block _ lw).trans HO.o.blk)
 obtain⟨lb7,tK⟩:=HW.o W7 (yZ.o.mono gz)
 have n70:=tK 0 (by simp)
 simp only[au] at n70
 have n71:=tK 1 (by simp)
 simp only[au] at n71
 have n72:=tK 2 (by simp)
 simp only[au] at n72
 have n73:=tK 3 (by simp)
 simp only[au] at n73
 have n74:=tK 4 (by simp)
 simp only[au] at n74
 clear tK
 go_wp2_with fail
 refine(qx _ _ _).mono ?_
 rintro e W8 ⟨hb,⟨hc,rfl⟩|⟨hc,rfl⟩⟩
 rotate_left
 ·simp at hc
  have q0:=jK.o
  have q1:=qO.o
  have q2:=wK.o
  have q3:=Ha.o
  have q4:=Uw.o
  simp only[jb,bT,bU,dw]
  (repeat (first|rw[aC (by omega)]|rw[ak (by omega)]))
  exact⟨rfl,(bg yZ.o hb).mono gz,.inr ⟨by simp,rfl⟩⟩
 simp at hc
 have pF:=ae (bg yZ.o hb)
 have HS8:=ae hb
 have HQ5:=ae hc
 clear hb hc c7 f7 lb7 n70 n71 n72 n73 n74
 obtain⟨c8,f8,l8⟩:=af ((pF.o.block _ lw).trans HO.o.blk)
 obtain⟨lb8,BQ⟩:=HW.o W8 (pF.o.mono gz)
 have n80:=BQ 0 (by simp)
 simp only[au] at n80
 have n81:=BQ 1 (by simp)
 simp only[au] at n81
 have n82:=BQ 2 (by simp)
 simp only[au] at n82
 have n83:=BQ 3 (by simp)
 simp only[au] at n83
 have n84:=BQ 4 (by simp)
 simp only[au] at n84
 clear BQ
 go_wp2_with fail
 obtain⟨Ms,hMs⟩: ∃Ms,Ms=(Value.slice o s.led.field.ax.length cc).ownBlock.toList:=⟨_,rfl⟩
 have F6:=HO.o.below pF.o
 have hm1:wb∉Ms:=fun h=>F6.rows.off 0 _ rfl (by rw[hMs] at h;exact dD.1 h)
 have hm2:b∉Ms:=fun h=>by have:=((F6.rows.own 0 _ rfl).lt b (by rw[hMs] at h;exact dD.1 h)).1;omega
 have wH: ∀m∈Ms,m<W8.heap.size:=fun m h=>((F6.rows.own 0 _ rfl).lt m (by rw[hMs] at h;exact dD.1 h)).2
 obtain⟨c9,f9,l9⟩:=af ((HS8.o.block _ YL).trans Cm.o)
 have hm9:b9∉Ms:=fun h=>by have:=((HO.o.rows.own 0 _ rfl).lt b9 (by rw[hMs] at h;exact dD.1 h)).2;have:=qR.o.1;omega
 have HM:=ae hMs
 have jo:=ae F6
 clear hMs F6
 refine zg 8 Ms (some 7) [(6,Spec.slice W8.heap.size #[iv x,iv y,iv z,iv p,iv q] 118 1),(7,⟨fun _ v=> ∃o2 c2,v= .slice o2 (s.led.field.ax.length+1) c2,fun _ v Wx=>Wx.ownsRow N 118 5 v (s.led.field.ax.length+1) (dJ s.led.field.ax++[iv x,iv y,iv z,iv p,iv q])/\(v.ownBlock=(Value.slice o s.led.field.ax.length cc).ownBlock∨ ∃q,v.ownBlock=some q/\W8.heap.size<=q)⟩)] ?_
 simp only[zt]
 repeat ((first|refine zd ?_|refine zk ?_);simp only[zp])
 refine dU W8.heap.size _ _ 1 (by rfl) (ai _) (by rfl) wH (by simp) (fun W hW=>by go_simp;try rfl) (fun b6=>?_)
 simp only[zp]
 repeat ((first|refine zd ?_|refine zk ?_);simp only[zp])
 refine bF _ (by rfl) (by rfl) (by exact⟨.slice none (s.led.field.ax.length+1) 0,none,0,rfl⟩) (fun W6 hE hF=>?_) (fun v Wa Wb ho hE=>?_) (fun v hv=>?_)
 ·have hE':Ext [] W8 W6:=hE
  obtain⟨b',hb',hge,hcc⟩:=hF _ (bD _) (by kernel_rfl)
  cases hb'
  have hown6:W6.ownsRow N 118 5 (.slice o s.led.field.ax.length cc) s.led.field.ax.length (dJ s.led.field.ax):=aB (Ms:=[]) (jo.o.rows.own 0 _ rfl) hE' (by simp)
  have hsrc:aP 5 W6 (.slice (some ⟨b6,0,none⟩) 1 1) 1 ([iv x,iv y,iv z,iv p,iv q]):=aP.cZ 5 1 hcc rfl (by decide)
  refine Does.mono (dK XU (by rfl) (by rfl) hown6 (by rfl) hsrc (Nj x y z p q) (by omega) (by omega) (by have:=hE'.size;have:=pF.o.size;omega)) ?_
  rintro v' W7 ⟨ho,hgr,hcase⟩
  refine⟨aS ho,⟨ho,?_⟩,⟨hgr.os,hgr.tape,hgr.output,hgr.size,fun b hb hn=>hgr.block b hb (fun e=>hn (by rw[HM.o];exact dD.2 e.symm))⟩⟩
  rcases hcase with h1|h1
  ·exact .inl h1
  ·exact .inr ⟨_,h1,hE'.size⟩
 ·exact⟨aB (Ms:=[]) ho.1 hE (by simp),ho.2⟩
 obtain⟨o7,c7,rfl⟩:=hv
 simp only[zp]
 intro W9 hE hF
 obtain⟨ql,zF⟩:=hF _ (bD _)
 have gV:Ext Ms W8 W9:=hE
 have hbl:=(gV.block wb jo.o.rows.lt hm1).trans jo.o.blk
 obtain⟨c9,f9,l9⟩:=af hbl
 have iP:=ae (ag gV (ag ql (ag zF hbl)))
 have Dp:Below N w W9:=(pF.o.mono gz).trans ⟨gV.os,gV.tape,gV.output,gV.size,fun k hk=>gV.block k (by have:=pF.o.size;omega) (fun h=>by have:=((jo.o.rows.own 0 _ rfl).lt k (by rw[HM.o] at h;exact dD.1 h)).1;omega)⟩
 have pF:=ae Dp
 clear hE hF gV ql zF hbl Dp hm1 hm2 wH c8 f8 lb8 n80 n81 n82 n83 n84
 go_wp2_with fail
 go_end0
 have q0:=jK.o
 have q1:=qO.o
 have q2:=wK.o
 have q3:=Ha.o
 have q4:=Uw.o
 have q5:=HQ5.o
 simp only[jb,bT,bU,dw]
 (repeat (first|rw[aC (by omega)]|rw[ak (by omega)]))
 refine⟨pF.o.setCell vC _,.inl ⟨rfl,rfl,⟨.slice o7 (s.led.field.ax.length+1) c7,vn,vw,vu,vr,vh,vk,vs⟩,es,jo.o.put (i:=0) rfl ⟨118,5,.slice o7 (s.led.field.ax.length+1) c7,s.led.field.ax.length+1,dJ s.led.field.ax++[iv x,iv y,iv z,iv p,iv q]⟩ iP.o.1 (fun m hm=>by rw[HM.o] at hm;exact dD.1 hm) iP.o.2.1 iP.o.2.2.1 (aI iP.o.2.2.2 _) (by simp[iH,mP,dJ]) (jo.o.es)⟩⟩
theorem yu (N:Nat) (w:World) (wb:Nat) (s:jI) (V:SV) (es:List KE) (ns:Value) (x y z p q:Int) (hO:jO N w wb s V es) (hn:ru N w ns [x,y,z,p,q]) (hG:Good s):
 Calls Tryz.prog 178 #[.pointer (some ⟨wb,0,none⟩),ns] w (qN N wb (jb s .tally [x,y,z,p,q]) w):=by
 by_cases h:y<z
 ·exact JS N w wb s V es ns x y z p q hO hn hG h
 ·exact JU N w wb s V es ns x y z p q hO hn hG (by omega)
theorem try_any (N:Nat) (w:World) (wb:Nat) (s:jI) (V:SV) (es:List KE) (ns:Value) (x y z:Int) (hO:jO N w wb s V es) (hn:ru N w ns [x,y,z]) (hG:Good s) (hx:(0<=x/\x<=9999)/\0<=y/\y<=9999):Calls Tryz.prog 195 #[.pointer (some ⟨wb,0,none⟩),ns] w (qN N wb (jb s .zZ [x,y,z]) w):=by
 obtain⟨vt,vn,vw,vu,vr,vh,vk,vs⟩:=V
 obtain⟨ok,ck,rfl⟩: ∃o c,vk= .slice o es.length c:=aS (n:=es.length) (hO.rows.own 6 _ rfl)
 obtain⟨o,cc,rfl⟩: ∃o c,vs= .slice o s.df.aJ.length c:=aS (n:=s.df.aJ.length) (hO.rows.own 7 _ rfl)
 have HO:=ae hO
 have gz:=eF hO
 obtain⟨b,c,rfl,hbN,hcs⟩:=hn
 have lb:b<w.heap.size:=by omega
 have lw:=hO.rows.lt
 have vC:=hO.rows.base
 have HW:Hid (∀W,Below N w W->b<W.heap.size/\ ∀(j:Nat) (h:j<[x,y,z].length),W.cell? ⟨b,j,none⟩=some (iv [x,y,z][j])):=ae (fun W hB=>⟨by have:=hB.size;omega,fun j h=>(iY (hB.block b hbN)).trans (hcs j h)⟩)
 obtain⟨c0,f0,l0⟩:=af hO.blk
 have oD:=hcs 0 (by simp)
 simp only[au] at oD
 have n01:=hcs 1 (by simp)
 simp only[au] at n01
 have n02:=hcs 2 (by simp)
 simp only[au] at n02
 have HB0:Hid (Below w.heap.size w w):=ae (aG _ _)
 have KJ:=hG.aJ
 have hes:es.length=s.df.aU.length:=by rw[<-hO.es];simp
 have jK:=ae hes
 clear hes
 clear hO hcs hG
 go_enter Tryz.func195,Tryz.ntmps195
 go_wp2_with fail
 refine zg 8 [] none [] ?_
 simp only[zt]
 repeat ((first|refine zd ?_|refine zk ?_);simp only[zp])
 intro W1 hE hF
 have HB1:=ae (bg HB0.o hE.below)
 clear hE hF c0 f0 oD n01 n02
 obtain⟨c1,f1,l1⟩:=af ((HB1.o.block _ lw).trans HO.o.blk)
 obtain⟨vN,hcs1⟩:=HW.o W1 (HB1.o.mono gz)
 have n10:=hcs1 0 (by simp)
 simp only[au] at n10
 have n11:=hcs1 1 (by simp)
 simp only[au] at n11
 have n12:=hcs1 2 (by simp)
 simp only[au] at n12
 clear hcs1
 go_wp2_with fail
 refine(iZ _ _ _).mono ?_
 rintro e W2 ⟨hb,⟨hc,rfl⟩|⟨hc,rfl⟩⟩
 rotate_left
 ·simp at hc
  have q0:=jK.o
  simp only[jb,bT,bU,dw]
  (repeat (first|rw[aC (by omega)]|rw[ak (by omega)]))
  exact⟨rfl,(bg HB1.o hb).mono gz,.inr ⟨by simp,rfl⟩⟩
 simp at hc
 have HB2:=ae (bg HB1.o hb)
 have HS2:=ae hb
 have qO:=ae hc
 clear hb hc c1 f1 vN n10 n11 n12
 obtain⟨c2,f2,l2⟩:=af ((HB2.o.block _ lw).trans HO.o.blk)
 obtain⟨wS,hcs2⟩:=HW.o W2 (HB2.o.mono gz)
 have n20:=hcs2 0 (by simp)
 simp only[au] at n20
 have n21:=hcs2 1 (by simp)
 simp only[au] at n21
 have n22:=hcs2 2 (by simp)
 simp only[au] at n22
 clear hcs2
 go_wp2_with fail
 refine RX.gm (fun ps W'=> ¬(y<=z/\z<=100/\z<=y+100)/\ps=jW 2/\Below N w W') 8 [] none [(6,⟨fun _ v=>v=rv (y,z),fun _ _ _=>(y<=z/\z<=100/\z<=y+100)⟩),(7,Spec.block W2.heap.size #[iv 0,iv 0] 112)] (by rintro ps a1 Wx hdf ⟨h1,rfl,h3⟩;refine⟨hdf,vG (c:=2) h3 ?_ (by decide)⟩;have q0:=jK.o;have q1:=qO.o;simp only[jb,bT,bU,dw];(repeat (first|rw[aC (by omega)]|rw[ak (by omega)]))) (by as_aux_lemma=>kernel_rfl) (by as_aux_lemma=>kernel_rfl) ?_
 simp only[zt]
 repeat (refine RX.zd ?_;simp only[zp])
 refine RX.bF _ (by rfl) (by rfl) ⟨_,rfl⟩ (fun Wq hE2 hF2=>?_) (fun v Wa Wb ho hE=>ho) (fun v hv=>?_)
 ·have hE':Ext [] W2 Wq:=hE2
  refine RX.dn 260 #[iv y,iv z,iv 100] (by go_simp;try rfl) ?_
  refine(vF y z 100 Wq (by omega)).mono ?_
  rintro e w' ⟨hb,⟨hc,rfl⟩|⟨hc,rfl⟩⟩
  ·exact .inl ⟨_,rfl,rfl,hc,Ext.az hb⟩
  ·exact .inr ⟨_,rfl,hc,rfl,(bg HB2.o (bg hE'.below hb)).mono gz⟩
 obtain rfl:v=rv (y,z):=hv
 simp only[zp]
 repeat (refine RX.zd ?_;simp only[zp])
 refine RX.jQ W2.heap.size _ _ (by rfl) (ai _) (by rfl) (by simp) (by simp) (fun W hW=>by go_simp;try rfl) (fun b9=>?_)
 simp only[zp]
 intro Wb hE hF
 obtain⟨b9',vP,hge,hk9⟩:=hF _ (bD _)
 cases vP
 have hc:y<=z/\z<=100/\z<=y+100:=hF _ (ng _ (bD _))
 have HBb:=ae (bg HB2.o (show Ext [] W2 Wb from hE).below)
 have wK:=ae hc
 have qR:=ae (ag (ja HB2.o.size hge) hk9)
 obtain⟨c9,f9,l9⟩:=af hk9
 clear hE hF hc hge hk9 c2 f2 wS n20 n21 n22
 go_upto_region 3 with(fail)
 refine dQ fun W3 pR=>?_
 have HB3:=ae (show Below w.heap.size w W3 from by rw[pR];exact((HBb.o).setCell qR.o.1 _).setCell qR.o.1 _)
 have Cm:=ae (show W3.heap[b9]? =some (.cells #[iv y,iv z] 112 (0,0)) from by rw[pR];exact aI (aI (qR.o.2) _) _)
 have YL:b9<W3.heap.size:=(aT.1 Cm.o).1
 clear pR c9 f9 l9
 obtain⟨c3,f3,l3⟩:=af ((HB3.o.block _ lw).trans HO.o.blk)
 obtain⟨Je,hcs3⟩:=HW.o W3 (HB3.o.mono gz)
 have n30:=hcs3 0 (by simp)
 simp only[au] at n30
 have n31:=hcs3 1 (by simp)
 simp only[au] at n31
 have n32:=hcs3 2 (by simp)
 simp only[au] at n32
 clear hcs3
 go_wp2_with fail
 refine(qx _ _ _).mono ?_
 rintro e W4 ⟨hb,⟨hc,rfl⟩|⟨hc,rfl⟩⟩
 rotate_left
 ·simp at hc
  have q0:=jK.o
  have q1:=qO.o
  have q2:=wK.o
  simp only[jb,bT,bU,dw]
  (repeat (first|rw[aC (by omega)]|rw[ak (by omega)]))
  exact⟨rfl,(bg HB3.o hb).mono gz,.inr ⟨by simp,rfl⟩⟩
 simp at hc
 have HB4:=ae (bg HB3.o hb)
 have Uu:=ae hb
 have Ha:=ae hc
 clear hb hc c3 f3 Je n30 n31 n32
 obtain⟨c4,f4,l4⟩:=af ((HB4.o.block _ lw).trans HO.o.blk)
 obtain⟨Py,jV⟩:=HW.o W4 (HB4.o.mono gz)
 have n40:=jV 0 (by simp)
 simp only[au] at n40
 have n41:=jV 1 (by simp)
 simp only[au] at n41
 have n42:=jV 2 (by simp)
 simp only[au] at n42
 clear jV
 go_wp2_with fail
 obtain⟨Ms,hMs⟩: ∃Ms,Ms=(Value.slice o s.df.aJ.length cc).ownBlock.toList:=⟨_,rfl⟩
 have hO4:=HO.o.below HB4.o
 have hm1:wb∉Ms:=fun h=>hO4.rows.off 7 _ rfl (by rw[hMs] at h;exact dD.1 h)
 have hm2:b∉Ms:=fun h=>by have:=((hO4.rows.own 7 _ rfl).lt b (by rw[hMs] at h;exact dD.1 h)).1;omega
 have wH: ∀m∈Ms,m<W4.heap.size:=fun m h=>((hO4.rows.own 7 _ rfl).lt m (by rw[hMs] at h;exact dD.1 h)).2
 obtain⟨c9,f9,l9⟩:=af ((Uu.o.block _ YL).trans Cm.o)
 have hm9:b9∉Ms:=fun h=>by have:=((HO.o.rows.own 7 _ rfl).lt b9 (by rw[hMs] at h;exact dD.1 h)).2;have:=qR.o.1;omega
 have HM:=ae hMs
 have jo:=ae hO4
 clear hMs hO4
 refine zg 12 Ms (some 11) [(10,Spec.slice W4.heap.size #[.bool true,iv x,iv y,iv z] 124 1),(11,⟨fun _ v=> ∃o2 c2,v= .slice o2 (s.df.aJ.length+1) c2,fun _ v Wx=>Wx.ownsRow N 124 4 v (s.df.aJ.length+1) (gG s.df.aJ++[.bool true,iv x,iv y,iv z])/\(v.ownBlock=(Value.slice o s.df.aJ.length cc).ownBlock∨ ∃q,v.ownBlock=some q/\W4.heap.size<=q)⟩)] ?_
 simp only[zt]
 repeat ((first|refine zd ?_|refine zk ?_);simp only[zp])
 refine dU W4.heap.size _ _ 1 (by rfl) (ai _) (by rfl) wH (by simp) (fun W hW=>by go_simp;try rfl) (fun b6=>?_)
 simp only[zp]
 repeat ((first|refine zd ?_|refine zk ?_);simp only[zp])
 refine bF _ (by rfl) (by rfl) (by exact⟨.slice none (s.df.aJ.length+1) 0,none,0,rfl⟩) (fun W6 hE hF=>?_) (fun v Wa Wb ho hE=>?_) (fun v hv=>?_)
 ·have hE':Ext [] W4 W6:=hE
  obtain⟨b',hb',hge,hcc⟩:=hF _ (bD _) (by kernel_rfl)
  cases hb'
  have hown6:W6.ownsRow N 124 4 (.slice o s.df.aJ.length cc) s.df.aJ.length (gG s.df.aJ):=aB (Ms:=[]) (jo.o.rows.own 7 _ rfl) hE' (by simp)
  have hsrc:aP 4 W6 (.slice (some ⟨b6,0,none⟩) 1 1) 1 ([.bool true,iv x,iv y,iv z]):=aP.cZ 4 1 hcc rfl (by decide)
  refine Does.mono (dK aaU (by rfl) (by rfl) hown6 (by rfl) hsrc (aa5 x y z) (by omega) (by omega) (by have:=hE'.size;have:=HB4.o.size;omega)) ?_
  rintro v' W7 ⟨ho,hgr,hcase⟩
  refine⟨aS ho,⟨ho,?_⟩,⟨hgr.os,hgr.tape,hgr.output,hgr.size,fun b hb hn=>hgr.block b hb (fun e=>hn (by rw[HM.o];exact dD.2 e.symm))⟩⟩
  rcases hcase with h1|h1
  ·exact .inl h1
  ·exact .inr ⟨_,h1,hE'.size⟩
 ·exact⟨aB (Ms:=[]) ho.1 hE (by simp),ho.2⟩
 obtain⟨o7,c7,rfl⟩:=hv
 simp only[zp]
 intro W5 hE hF
 obtain⟨ql,zF⟩:=hF _ (bD _)
 have gV:Ext Ms W4 W5:=hE
 have hbl:=(gV.block wb jo.o.rows.lt hm1).trans jo.o.blk
 obtain⟨c5,f5,l5⟩:=af hbl
 have iP:=ae (ag gV (ag ql (ag zF hbl)))
 have Dp:Below N w W5:=(HB4.o.mono gz).trans ⟨gV.os,gV.tape,gV.output,gV.size,fun k hk=>gV.block k (by have:=HB4.o.size;omega) (fun h=>by have:=((jo.o.rows.own 7 _ rfl).lt k (by rw[HM.o] at h;exact dD.1 h)).1;omega)⟩
 have pF:=ae Dp
 clear hE hF gV ql zF hbl Dp hm1 hm2 wH c4 f4 Py n40 n41 n42
 go_wp2_with fail
 go_end0
 have q0:=jK.o
 have q1:=qO.o
 have q2:=wK.o
 have q3:=Ha.o
 simp only[jb,bT,bU,dw]
 (repeat (first|rw[aC (by omega)]|rw[ak (by omega)]))
 refine⟨pF.o.setCell vC _,.inl ⟨rfl,rfl,⟨vt,vn,vw,vu,vr,vh,.slice ok (es.length) ck,.slice o7 (s.df.aJ.length+1) c7⟩,es,jo.o.put (i:=7) rfl ⟨124,4,.slice o7 (s.df.aJ.length+1) c7,s.df.aJ.length+1,gG s.df.aJ++[.bool true,iv x,iv y,iv z]⟩ iP.o.1 (fun m hm=>by rw[HM.o] at hm;exact dD.1 hm) iP.o.2.1 iP.o.2.2.1 (aI iP.o.2.2.2 _) (by simp[iH,fK,gG]) (jo.o.es)⟩⟩
end Go.Proofs.YthbpmepjmebolaaGreatDoor.Bk
end
section
namespace Go.Proofs.YthbpmepjmebolaaGreatDoor.Bk
open ji
def vW (n:Nat):Nat->aH
 |0=>[]
 |m+1=>vW (n/10) m++[Jw (n%10)]
theorem Oj (m:Nat): ∀n,(vW n m).length=m:=by
 induction m with
 |zero=>intro n;rfl
 |succ m ih=>intro n;simp[vW,ih]
def jH:Nat->aH->Nat
 |_,[]=>0
 |k,c::l=>k*c.toNat+jH (k+1) l
def sS (i:Nat) (line:aH):Nat:=(29*(i+1)+jH 2 line)%9949
theorem Wj (i:Nat) (line:aH):sS i line<10^4:=by
 have:=Nat.mod_lt (29*(i+1)+jH 2 line) (show 9949>0 by omega)
 unfold sS
 omega
def mQ (i:Nat) (line:aH):aH:=vW line.length 2++(58::(line++(58::(vW (sS i line) 4++[10]))))
theorem CS (i:Nat) (line:aH):(mQ i line).length=9+line.length:=by simp[mQ,Oj];omega
def jF (i:Nat):List aH->aH
 |[]=>[]
 |l::ls=>mQ i l++jF (i+1) ls
def Gg (ls:List aH):aH:=jF 0 ls
theorem Ia: ∀(ls:List aH) (i:Nat) (l:aH),jF i (ls++[l])=jF i ls++mQ (i+ls.length) l:=by
 intro ls
 induction ls with
 |nil=>intro i l;simp[jF]
 |cons x ls ih=>intro i l;simp only[List.cons_append,jF,ih,ni,List.length_cons];rw[show i+1+ls.length=i+(ls.length+1) from by omega]
def MC:List aH->Nat
 |[]=>0
 |l::ls=>9+l.length+MC ls
theorem KX: ∀(ls:List aH) (i:Nat),(jF i ls).length=MC ls:=by
 intro ls
 induction ls with
 |nil=>intro i;rfl
 |cons l ls ih=>intro i;simp[jF,MC,CS,ih]
end Go.Proofs.YthbpmepjmebolaaGreatDoor.Bk
end
section
namespace Go.Proofs.YthbpmepjmebolaaGreatDoor
open Go.RowKit Go.RG Go.SL Go.Shelf ji Go.TB
theorem Um {l:aQ} (hp: ∃d∈fU l,jv l [] d=true) (p:Int->dP->dP):(Bg p l (fU l)).length=l.field.aK.toNat:=by
 rcases JC p l (fU l) (fU l).length (ai _) with h|h
 ·obtain⟨d,hd,hc⟩:=hp
  by_cases h0:0<l.field.aK.toNat
  ·rcases GG p l (fU l) h0 (fU l).length (ai _) with⟨_,h2⟩|⟨h1,_⟩
   ·rw[List.take_length] at h2
    rw[h2 d hd] at hc;cases hc
   ·exact h1
  ·unfold Bg;rw[h];simp;omega
 ·exact h
end Go.Proofs.YthbpmepjmebolaaGreatDoor
end
section
namespace Go.Proofs.YthbpmepjmebolaaGreatDoor
open Go.RowKit Go.RG Go.SL ji Go.Deep
section
variable {H : Type} {enc : TypeId × Value → H} {P : Program} {W : World} {base b0 : Nat} {spare : Nat → Bool} {held : Bool} {r : Reach}
theorem U8 {α:Type} [Inhabited α] (f:α->List Value) (k:Nat) (hk0:0<k) (hf: ∀x,(f x).length=k) {t e:TypeId} (ht:P.underlying t=some (.slice e)) (hk:P.cellsOf e=k)
 (hel: ∀fuel cs x,DataW.trod enc P W base spare held fuel e cs=some x-> ∃y:α,cs=f y)
 {v:Value} (hok:Cell.ok P W r b0 t v) {fuel:Nat} {x:DataW H×List MemPlace} (h:DataW.trod enc P W base spare held fuel t [v]=some x):
 ∃l:List α,aP k W v l.length (l.flatMap f):=by
 rcases open_slice ht h with⟨hc,_⟩|⟨a,len,cap,m,n,D,Pl,hc,hb,hl,hm,hmm,_,hx⟩
 ·cases hc
  exact⟨[],aP.nil k W⟩
 ·cases hc
  have hsp:a.spot=none:=by
   simp only[Cell.ok,ht,World.has] at hok
   exact hok.2.2.2.1
  have hlm:len<=m:=by rw[hmm];split <;>omega
  have each: ∀i,i<m-> ∃y:α, ∀j u,(f y)[j]? =some u->W.cell? ⟨a.block,a.off+(i*k+j),none⟩=some u:=by
   intro i hi
   obtain⟨cs',h1,h2⟩:=hx i hi
   rw[hk] at h1
   obtain⟨_,hlen,hcell⟩:=World.cells?_some h1
   obtain⟨y,rfl⟩:=hel _ _ _ h2
   refine⟨y,fun j u hj=>?_⟩
   have hjk:j<k:=by rw[<-hf y];exact(jg.1 hj).1
   have h3:=hcell j hjk
   rw[add_add] at h3
   obtain⟨b,off,sp⟩:=a
   simp only at hsp
   subst hsp
   rw[Addr.add_lit] at h3
   rw[h3,hj]
  obtain⟨Y,hY⟩:=choose_lt each
  have hlen:((List.range len).map Y).length=len:=by simp
  refine⟨(List.range len).map Y,?_,some a,cap,by rw[hlen],by rw[hlen];exact hl,hm,(fun h=>by cases h),fun a' ha=>?_⟩
  ·have: ∀l:List α,(l.flatMap f).length=l.length*k:=by
    intro l
    induction l with
    |nil=>simp
    |cons z l ih=>rw[List.flatMap_cons,dm,hf,ih,List.length_cons,Nat.add_mul];omega
   exact this _
  ·cases ha
   refine⟨hsp,fun j u hj=>?_⟩
   have hjl:j<(((List.range len).map Y).flatMap f).length:=(jg.1 hj).1
   have agc:(((List.range len).map Y).flatMap f).length=len*k:=by
    have: ∀l:List α,(l.flatMap f).length=l.length*k:=by
     intro l
     induction l with
     |nil=>simp
     |cons z l ih=>rw[List.flatMap_cons,dm,hf,ih,List.length_cons,Nat.add_mul];omega
    rw[this,hlen]
   rw[agc] at hjl
   have hi:j/k<len:=(Nat.div_lt_iff_lt_mul hk0).2 hjl
   have hr:j%k<k:=Nat.mod_lt _ hk0
   have e:j/k*k+j%k=j:=by rw[Nat.mul_comm];exact Nat.div_add_mod j k
   have:=jq f k hf ((List.range len).map Y) (j/k) (j%k) (by rw[hlen];exact hi) hr
   rw[e,hj] at this
   simp only[List.getElem_map,List.getElem_range] at this
   have h4:=hY (j/k) (by omega) (j%k) u this.symm
   rw[e] at h4
   exact h4
end
section
variable {H : Type} {enc : TypeId × Value → H} {W : World} {base b0 : Nat} {spare : Nat → Bool} {held : Bool} {r : Reach}
end
theorem Hf {H:Type} {enc:TypeId×Value->H} {P:Program} (hl:laidOutB P=true) {ts:List TypeId} (hr:(ts.all fun t=>P.readableRec t&&decide (t<P.types.size))=true) {W W':World} {vs:List Value} {ds:List (DataW H)} {ps:List MemPlace}
 (h:DataW.TrodAll enc P W 0 (fun _=>true) true ts vs ds ps) (hb:Below W.heap.size W W') (hlt: ∀x∈ps,x.block<W.heap.size):
 DataW.TrodAll enc P W' 0 (fun b=>decide (b<W.heap.size)) true ts vs ds ps:=by
 induction ts generalizing vs ds ps with
 |nil=>
  cases vs <;>cases ds <;>simp_all [DataW.TrodAll]
 |cons t ts ih=>
  cases vs with
  |nil=>cases ds <;>simp_all [DataW.TrodAll]
  |cons v vs=>
   cases ds with
   |nil=>simp_all [DataW.TrodAll]
   |cons d ds=>
    obtain⟨p,q,h1,h2,rfl⟩:=h
    simp only[List.all_cons,eU,eH] at hr
    exact⟨p,q,Below.trod hl hr.1.1 hr.1.2 h1 hb (fun x hx=>hlt x (by simp[hx])),ih (by simpa using hr.2) h2 (fun x hx=>hlt x (by simp[hx])),rfl⟩
end Go.Proofs.YthbpmepjmebolaaGreatDoor
end

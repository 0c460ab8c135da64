/-
  Texts of this claim, packed by a program: YA YC YD YG YB YE YF DA DB DC DD DE DF YI OG.
-/
import Derived.WalkKit
import Derived.WalkLawsBesides
import Derived.WalkSpells
import Derived.Outline
import Derived.Handy
import Derived.KernelRfl
import Derived.Lib.Hide
import Derived.Lib.AtoiTie
import Derived.Lib.ItoaNum
import Derived.StringKeys
import Derived.Lib.SlicesS
import Derived.BigRegion
import Derived.Deep.Slices
import Derived.Carry
import Derived.Test.YthllkbbbapgelaaGreatDoorPG8
import Derived.Test.YthllkbbbapgelaaGreatDoorPG11
set_option maxHeartbeats 8000000
set_option maxRecDepth 100000
set_option linter.all false
theorem _root_.zcH {P:Prop} (h:P:=by
 have G8:Ext [] w Wq:=Ι;refine RX.bX 245 #[iv x,iv y] (by go_simp;try rfl) ?_;refine(sD x y Wq).mono ?_;exact zas):P:=h
theorem _root_.zaI {P:Prop} (h:P:=by
 have HE:=aa he;clear he;go_wp2;go_round
 case rel=>exact⟨k+1,by omega,by go_num,fun j hj hjk=>(by by_cases e:j=k;(subst e;exact HE.o);exact HN.o j hj ϑ)⟩
 case measure=>simp[intOf];omega):P:=h
theorem _root_.zaX {P:Prop} (h:P:=by
 have HC:=aa hc;clear hc;go_wp2_with fail
 go_returns;exact⟨by rw[HC.o];simp,aC _ _⟩):P:=h
theorem _root_.zaM {P:Prop} (h:P:=by
 rintro e w1 ⟨hb,⟨hc,rfl⟩|⟨hc,rfl⟩⟩
 ·(try go_wp2_with fail)
  go_end0
  exact⟨hb,.inl ⟨by simpa using hc,rfl⟩⟩
 ·exact⟨rfl,hb,.inr ⟨by simpa using hc,rfl⟩⟩):P:=h
theorem _root_.zbx {P:Prop} (h:P:=by
 exact⟨((aV (ai (aC _ _) _) HB.o).setCell (ah _) _).setCell (ah _) _,.inl ⟨by have:=HC.o;omega,rfl⟩⟩):P:=h
theorem _root_.zbC {P:Prop} (h:P:=by
 simp only[Bool.or_eq_true,dR] at hc;exact⟨rfl,aV (ai (aC _ _) _) hb,.inr ⟨by omega,rfl⟩⟩):P:=h
theorem _root_.zag {P:Prop} (h:P:=by
 simp only[gZ,bI,bJ,df];(repeat (first|rw[aB ϑ]|rw[aj ϑ]))
 exact⟨rfl,(aV Qi.o hb).mono fD,.inr ⟨by simp,rfl⟩⟩):P:=h
theorem _root_.zas {P:Prop} (h:P:=by
 rintro e w' ⟨hb,⟨hc,rfl⟩|⟨hc,rfl⟩⟩
 ·exact .inl ⟨_,rfl,rfl,hc,Ext.ay hb⟩
 ·exact .inr ⟨_,rfl,hc,rfl,(aV ψ.o (aV G8.below hb)).mono fD⟩):P:=h
theorem _root_.zaw {P:Prop} (h:P:=by
 clear hE hF hc c0 f0 mJ sw;obtain⟨c1,f1,l1⟩:=ae ((Qi.o.block _ lw).trans HO.o.blk);obtain⟨tH,XH⟩:=HW.o W1 (Qi.o.mono fD);have Ξ:=XH 0 ϕ;simp only[ak] at Ξ;have n11:=XH 1 ϕ;simp only[ak] at n11;clear XH;go_wp2_with fail
 go_end0
 have q0:=iL.o;simp only[gZ,bI,bJ,df];(repeat (first|rw[aB ϑ]|rw[aj ϑ]))
 have xE:=HO.o.below Qi.o;exact⟨(((Qi.o.mono fD).setCell sS _).setCell sS _),.inl ⟨rfl,rfl,_,es,xE.store ((fq).trans fq) (aG (aG (xE.blk) _) _) rfl rfl⟩⟩):P:=h
theorem _root_.zai {P:Prop} (h:P:=by
 have q1:=pg.o;simp only[gZ,bI,bJ,df];(repeat (first|rw[aB ϑ]|rw[aj ϑ]))
 exact⟨rfl,(aV δ.o hb).mono fD,.inr ⟨by simp,rfl⟩⟩):P:=h
theorem _root_.zal {P:Prop} (h:P:=by
 have q1:=pg.o;have q2:=uu.o;simp only[gZ,bI,bJ,df];(repeat (first|rw[aB ϑ]|rw[aj ϑ]))
 exact⟨rfl,(aV mO.o hb).mono fD,.inr ⟨by simp,rfl⟩⟩):P:=h
theorem _root_.zat {P:Prop} (h:P:=by
 rintro v' W7 ⟨ho,TF,XL⟩;refine⟨aO ho,⟨ho,?_⟩,⟨TF.os,TF.tape,TF.output,TF.size,fun b hb hn=>TF.block b hb (fun e=>hn (by rw[HM.o];exact bY.2 e.symm))⟩⟩;rcases XL with h1|h1
 ·exact .inl h1
 ·exact .inr ⟨_,h1,G8.size⟩):P:=h
theorem _root_.zb1 {P:Prop} (h:P:=by
 intro l;induction l with
 |nil=>simp
 |cons z l ih=>rw[List.flatMap_cons,bR,hf,ih,List.length_cons,Nat.add_mul];omega):P:=h
section
namespace Go.Proofs.Z.Bk
open ig Go.Proofs.Z.uL
abbrev au:=List UInt8
def cB:au->List au
 |[]=>[[]]
 |c::l=>if c=32 then[]::cB l else(c::(cB l).headD [])::(cB l).tail
theorem kg: ∀l,cB l≠[]:=by
 intro l;cases l with
 |nil=>simp[cB]
 |cons c l=>unfold cB;split <;>simp
def fw (c:UInt8):Bool:=decide (48<=c.toNat)&&decide (c.toNat<=57)
def nC (s:au):Int:=s.foldl (fun n c=>10*n+((c.toNat:Int)-48)) 0
def wZ (s:au):Bool:=decide (1<=s.length)&&decide (s.length<=4)&&(decide (s.headD 0≠48) ||decide (s.length=1))&&s.all fw
def jO (s:au):Option Int:=if wZ s=true then some (nC s) else none
theorem GK: ∀(s:au) (n:Int),0<=n->s.all fw=true->n*10^s.length<=s.foldl (fun n c=>10*n+((c.toNat:Int)-48)) n/\s.foldl (fun n c=>10*n+((c.toNat:Int)-48)) n<(n+1)*10^s.length:=by
 intro s;induction s with
 |nil=>intro n h _;simp;omega
 |cons c s ih=>
  intro n h hs;rw[List.all_cons,dL] at hs;have hd:=hs.1;simp only[fw,dL,dR] at hd;have hp:0<(10:Int)^s.length:=Int.pow_pos ϑ;have:=ih (10*n+((c.toNat:Int)-48)) ϑ hs.2;rw[List.foldl_cons,List.length_cons,Int.pow_succ];have e1:n*(10^s.length*10)=(10*n)*10^s.length:=by rw[Int.mul_comm (10^s.length) 10, <-Int.mul_assoc,Int.mul_comm n 10]
  have e2:(n+1)*(10^s.length*10)=(10*(n+1))*10^s.length:=by rw[Int.mul_comm (10^s.length) 10, <-Int.mul_assoc,Int.mul_comm (n+1) 10]
  rw[e1,e2];have h1:(10*n)*10^s.length<=(10*n+((c.toNat:Int)-48))*10^s.length:=Int.mul_le_mul_of_nonneg_right ϑ ϑ;have h2:(10*n+((c.toNat:Int)-48)+1)*10^s.length<=(10*(n+1))*10^s.length:=Int.mul_le_mul_of_nonneg_right ϑ ϑ;omega
theorem Hm {s:au} {n:Int} (h:jO s=some n):0<=n/\n<=9999:=by
 unfold jO at h;split at h
 ·rename_i hf;obtain rfl:=gV h;simp only[wZ,dL,dR] at hf;have h1:=GK s 0 ϑ hf.2;have h2:(10:Int)^s.length<=10000:=by
   have h3:=hf.1.1.1;have h4:=hf.1.1.2;clear h1 hf;generalize s.length=k at*
   rcases(show k=1∨k=2∨k=3∨k=4 by omega) with rfl|rfl|rfl|rfl <;>decide
  unfold nC;omega
 ·cases h
inductive jl where
 |row|left|tally|xS|kF|rate|box|note|void|start|bM|turn|mQ|yw|unread|heap|strong|nE|fill|xU|rf
 deriving DecidableEq
def IV:List jl:=[.row,.left,.tally,.xS,.kF,.rate,.box,.note,.void,.start,.bM,.turn,.mQ,.yw,.unread,.heap,.strong,.nE,.fill,.xU,.rf]
def jl.word:jl->au
 | .row=>[114,111,119]
 | .left=>[108,101,102,116]
 | .tally=>[116,97,108,108,121]
 | .xS=>[119,97,115,104]
 | .kF=>[117,110,116,97,108,108,121]
 | .rate=>[114,97,116,101]
 | .box=>[98,111,120]
 | .note=>[110,111,116,101]
 | .void=>[118,111,105,100]
 | .start=>[115,116,97,114,116]
 | .bM=>[119,101,116]
 | .turn=>[116,117,114,110]
 | .mQ=>[117,110,116,117,114,110]
 | .yw=>[105,114,111,110]
 | .unread=>[117,110,114,101,97,100]
 | .heap=>[104,101,97,112]
 | .strong=>[115,116,114,111,110,103]
 | .nE=>[99,97,115,107]
 | .fill=>[102,105,108,108]
 | .xU=>[116,114,121]
 | .rf=>[117,110,116,114,121]
def jl.many:jl->Nat
 | .row=>0
 | .kF| .rate| .void| .turn| .mQ| .unread| .rf=>1
 | .left| .box| .start| .heap| .nE=>2
 | .xS| .note| .bM| .yw| .strong| .fill| .xU=>3
 | .tally=>5
def qH (w:au):Option jl:=IV.find? fun c=>c.word==w
theorem NW (c:jl):qH c.word=some c:=by cases c <;>decide
theorem C9 {w:au} {c:jl} (h:qH w=some c):w=c.word:=by
 have:=List.find?_some h;exact(beq_iff_eq.1 this).symm
theorem ed {w:au} (h:qH w=none) (c:jl):w≠c.word:=by
 intro e;rw[e,NW] at h;cases h
def jY:List au->Option (List Int)
 |[]=>some []
 |p::ps=>(jO p).bind fun n=>(jY ps).map (n:: ·)
theorem FY: ∀{ps:List au} {n:List Int},jY ps=some n->n.length=ps.length:=by
 intro ps;induction ps with
 |nil=>intro n h;obtain rfl:=gV h;rfl
 |cons p ps ih=>
  intro n h;unfold jY at h;cases hp:jO p with
  |none=>rw[hp] at h;cases h
  |some x=>
   cases hq:jY ps with
   |none=>rw[hp,hq] at h;cases h
   |some y=>
    rw[hp,hq] at h;obtain rfl:=gV h;simp[ih hq]
theorem Uk: ∀{ps:List au} {n:List Int},jY ps=some n-> ∀x∈n,0<=x/\x<=9999:=by
 intro ps;induction ps with
 |nil=>intro n h x hx;obtain rfl:=gV h;cases hx
 |cons p ps ih=>
  intro n h x hx;unfold jY at h;cases hp:jO p with
  |none=>rw[hp] at h;cases h
  |some y=>
   cases hq:jY ps with
   |none=>rw[hp,hq] at h;cases h
   |some z=>
    rw[hp,hq] at h;obtain rfl:=gV h;rcases eB.1 hx with rfl|hx
    ·exact Hm hp
    ·exact ih hq x hx
def nG (F7:au):Option (jl×List Int):=
 (qH ((cB F7).headD [])).bind fun c=>if(cB F7).tail.length=c.many then(jY (cB F7).tail).map fun n=>(c,n) else none
theorem qx {F7:au} {c:jl} {n:List Int} (h:nG F7=some (c,n)):(cB F7).headD []=c.word/\n.length=c.many/\(∀x∈n,0<=x/\x<=9999)/\jY (cB F7).tail=some n:=by
 unfold nG at h;cases hc:qH ((cB F7).headD []) with
 |none=>rw[hc] at h;cases h
 |some d=>
  rw[hc,Option.bind_some] at h;split at h
  ·rename_i hl;cases hn:jY (cB F7).tail with
   |none=>rw[hn] at h;cases h
   |some m=>
    rw[hn] at h;obtain⟨rfl,rfl⟩:=Prod.mk.inj (gV h);exact⟨C9 hc,by rw[FY hn,hl],Uk hn,rfl⟩
  ·cases h
structure iC where
 led:aN
 heap:bN
 cz:bE
def bT:iC:=
 {led:={field:={rows:=3,aJ:=2,left:=(0,3),ax:=[]},rate:=10,box:=(0,2000),notes:=[]}
  heap:={last:=4,size:=10,aX:=50,die:=10,qW:=60,start:=(30,30),bM:=List.replicate 5 (6,6),turns:=[],readings:=[]}
  cz:={heaps:=[(40,40)],aR:=[],aI:=[]}}
def G7 (a b most:Int):Bool:=decide (a<=b)&&decide (b<=most)
def Ht (a b most wide:Int):Bool:=decide (a<=b)&&decide (b<=most)&&decide (b<=a+wide)
def il (last:Int) (p:Int->Bool):List Int:=((List.range (last+1).toNat).map fun(k:Nat)=>(k:Int)).filter p
def kY (s:iC) (l:List IY):iC:={s with led:={s.led with field:={s.led.field with ax:=l}}}
def mq (s:iC) (l:List (Int×dF)):iC:={s with led:={s.led with notes:=l}}
def gK (s:iC) (h:bN):iC:={s with heap:=h}
def eF (s:iC) (c:bE):iC:={s with cz:=c}
def gZ (s:iC):jl->List Int->Int×iC
 | .row,_=>if 5<=s.led.field.rows then(3,s) else(0,{s with led:={s.led with field:={s.led.field with rows:=s.led.field.rows+1}}})
 | .left,n=>if G7 (n.getD 0 0) (n.getD 1 0) s.led.field.rows=false then(2,s)
    else(0,{s with led:={s.led with field:={s.led.field with left:=(n.getD 0 0,n.getD 1 0)}}})
 | .tally,n=>if s.led.field.aJ<=n.getD 0 0 then(7,s) else if s.led.field.rows<=n.getD 1 0∨s.led.field.rows<=n.getD 2 0 then(7,s)
    else if n.getD 2 0<n.getD 1 0 then(2,s) else if G7 (n.getD 3 0) (n.getD 4 0) s.led.field.rows=false then(2,s)
    else if 5<=s.led.field.ax.length then(3,s)
    else(0,kY s (s.led.field.ax++[(n.getD 0 0,n.getD 1 0,n.getD 2 0,(n.getD 3 0,n.getD 4 0))]))
 | .xS,n=>if(s.led.field.ax.length:Int)<=n.getD 0 0 then(7,s) else if G7 (n.getD 1 0) (n.getD 2 0) s.led.field.rows=false then(2,s)
    else(0,kY s (s.led.field.ax.set (n.getD 0 0).toNat
     (let t:=s.led.field.ax.getD (n.getD 0 0).toNat (0,0,0,(0,0));(t.1,t.2.1,t.2.2.1,(n.getD 1 0,n.getD 2 0)))))
 | .kF,n=>if(s.led.field.ax.length:Int)<=n.getD 0 0 then(7,s) else(0,kY s (s.led.field.ax.eraseIdx (n.getD 0 0).toNat))
 | .rate,n=>if n.getD 0 0=0∨50<n.getD 0 0 then(2,s) else(0,{s with led:={s.led with rate:=n.getD 0 0}})
 | .box,n=>if G7 (n.getD 0 0) (n.getD 1 0) 2000=false then(2,s) else(0,{s with led:={s.led with box:=(n.getD 0 0,n.getD 1 0)}})
 | .note,n=>if s.led.field.aJ<=n.getD 0 0 then(7,s) else if G7 (n.getD 1 0) (n.getD 2 0) 2000=false then(2,s)
    else if 5<=s.led.notes.length then(3,s) else(0,mq s (s.led.notes++[(n.getD 0 0,(n.getD 1 0,n.getD 2 0))]))
 | .void,n=>if(s.led.notes.length:Int)<=n.getD 0 0 then(7,s) else(0,mq s (s.led.notes.eraseIdx (n.getD 0 0).toNat))
 | .start,n=>if Ht (n.getD 0 0) (n.getD 1 0) 500 2=false then(2,s) else(0,gK s {s.heap with start:=(n.getD 0 0,n.getD 1 0)})
 | .bM,n=>if s.heap.last<n.getD 0 0 then(7,s) else if Ht (n.getD 1 0) (n.getD 2 0) 20 2=false then(2,s)
    else(0,gK s {s.heap with bM:=s.heap.bM.set (n.getD 0 0).toNat (n.getD 1 0,n.getD 2 0)})
 | .turn,n=>if s.heap.last<n.getD 0 0 then(7,s) else if s.heap.turns.contains (n.getD 0 0) then(6,s)
    else(0,gK s {s.heap with turns:=il s.heap.last fun i=>i==n.getD 0 0 ||s.heap.turns.contains i})
 | .mQ,n=>if s.heap.turns.contains (n.getD 0 0)=false then(7,s)
    else(0,gK s {s.heap with turns:=il s.heap.last fun i=>i !=n.getD 0 0&&s.heap.turns.contains i})
 | .yw,n=>if s.heap.last<n.getD 0 0 then(7,s) else if 1000<n.getD 1 0∨50<n.getD 2 0 then(2,s)
    else if 5<=s.heap.readings.length then(3,s) else(0,gK s {s.heap with readings:=s.heap.readings++[(n.getD 0 0,n.getD 1 0,n.getD 2 0)]})
 | .unread,n=>if(s.heap.readings.length:Int)<=n.getD 0 0 then(7,s) else(0,gK s {s.heap with readings:=s.heap.readings.eraseIdx (n.getD 0 0).toNat})
 | .heap,n=>if Ht (n.getD 0 0) (n.getD 1 0) 100 9=false then(2,s) else if 3<=s.cz.heaps.length then(3,s)
    else(0,eF s {s.cz with heaps:=s.cz.heaps++[(n.getD 0 0,n.getD 1 0)],aR:=s.cz.aR.map (· ++[0])})
 | .strong,n=>if(s.cz.heaps.length:Int)<=n.getD 0 0 then(7,s) else if Ht (n.getD 1 0) (n.getD 2 0) 100 9=false then(2,s)
    else(0,eF s {s.cz with heaps:=s.cz.heaps.set (n.getD 0 0).toNat (n.getD 1 0,n.getD 2 0)})
 | .nE,n=>if(s.cz.heaps.length:Int)<=n.getD 0 0 then(7,s) else if n.getD 1 0=0∨30<n.getD 1 0 then(2,s)
    else if 3<=s.cz.aR.length then(3,s)
    else(0,eF s {s.cz with aR:=s.cz.aR++[(List.replicate s.cz.heaps.length 0).set (n.getD 0 0).toNat (n.getD 1 0)]})
 | .fill,n=>if(s.cz.aR.length:Int)<=n.getD 0 0 then(7,s) else if(s.cz.heaps.length:Int)<=n.getD 1 0 then(7,s) else if 30<n.getD 2 0 then(2,s)
    else if((s.cz.aR.getD (n.getD 0 0).toNat []).set (n.getD 1 0).toNat (n.getD 2 0)).any (fun x=>decide (0<x))=false then(8,s)
    else(0,eF s {s.cz with aR:=s.cz.aR.set (n.getD 0 0).toNat ((s.cz.aR.getD (n.getD 0 0).toNat []).set (n.getD 1 0).toNat (n.getD 2 0))})
 | .xU,n=>if(s.cz.aR.length:Int)<=n.getD 0 0 then(7,s) else if Ht (n.getD 1 0) (n.getD 2 0) 100 100=false then(2,s)
    else if 5<=s.cz.aI.length then(3,s) else(0,eF s {s.cz with aI:=s.cz.aI++[(true,n.getD 0 0,(n.getD 1 0,n.getD 2 0))]})
 | .rf,n=>if(s.cz.aI.length:Int)<=n.getD 0 0 then(7,s) else(0,eF s {s.cz with aI:=s.cz.aI.eraseIdx (n.getD 0 0).toNat})
structure eD (s:iC):Prop where
 rows:3<=s.led.field.rows/\s.led.field.rows<=5
 aJ:s.led.field.aJ=2
 left:0<=s.led.field.left.1/\s.led.field.left.1<=s.led.field.left.2/\s.led.field.left.2<=s.led.field.rows
 A7:s.led.field.ax.length<=5
 uH: ∀t∈s.led.field.ax,(0<=t.1/\t.1<2)/\(0<=t.2.1/\t.2.1<=t.2.2.1/\t.2.2.1<s.led.field.rows)/\(0<=t.2.2.2.1/\t.2.2.2.1<=t.2.2.2.2/\t.2.2.2.2<=s.led.field.rows)
 rate:1<=s.led.rate/\s.led.rate<=50
 box:0<=s.led.box.1/\s.led.box.1<=s.led.box.2/\s.led.box.2<=2000
 notes:s.led.notes.length<=5
 note: ∀t∈s.led.notes,(0<=t.1/\t.1<2)/\(0<=t.2.1/\t.2.1<=t.2.2/\t.2.2<=2000)
 heap:s.heap.last=4/\s.heap.size=10/\s.heap.aX=50/\s.heap.die=10/\s.heap.qW=60
 start:0<=s.heap.start.1/\s.heap.start.1<=s.heap.start.2/\s.heap.start.2<=500/\s.heap.start.2<=s.heap.start.1+2
 Qa:s.heap.bM.length=5
 bM: ∀r∈s.heap.bM,0<=r.1/\r.1<=r.2/\r.2<=20/\r.2<=r.1+2
 turns: ∃p,s.heap.turns=il 4 p
 reads:s.heap.readings.length<=5
 read: ∀x∈s.heap.readings,(0<=x.1/\x.1<=4)/\(0<=x.2.1/\x.2.1<=1000)/\(0<=x.2.2/\x.2.2<=50)
 Og:1<=s.cz.heaps.length/\s.cz.heaps.length<=3
 cz: ∀r∈s.cz.heaps,0<=r.1/\r.1<=r.2/\r.2<=100/\r.2<=r.1+9
 aR:s.cz.aR.length<=3
 nE: ∀l∈s.cz.aR,l.length=s.cz.heaps.length/\(∀x∈l,0<=x/\x<=30)/\0<kK l
 aI:s.cz.aI.length<=5
 trial: ∀t∈s.cz.aI,t.1=true/\(0<=t.2.1/\t.2.1<s.cz.aR.length)/\(0<=t.2.2.1/\t.2.2.1<=t.2.2.2/\t.2.2.2<=100)
theorem xM:eD bT where
 rows:=by decide
 aJ:=rfl
 left:=by decide
 A7:=by decide
 uH:=fun _ h=>by cases h
 rate:=by decide
 box:=by decide
 notes:=by decide
 note:=fun _ h=>by cases h
 heap:=by decide
 start:=by decide
 Qa:=rfl
 bM:=fun r h=>by obtain rfl:=List.eq_of_mem_replicate h;decide
 turns:=⟨fun _=>false,by decide⟩
 reads:=by decide
 read:=fun _ h=>by cases h
 Og:=by decide
 cz:=fun r h=>by obtain rfl:=dY.1 h;decide
 aR:=by decide
 nE:=fun _ h=>by cases h
 aI:=by decide
 trial:=fun _ h=>by cases h
theorem Bn {n:List Int} (h: ∀x∈n,0<=x/\x<=9999) (i:Nat):0<=n.getD i 0/\n.getD i 0<=9999:=by
 by_cases hi:i<n.length
 ·rw[fJ,bZ hi,Option.getD_some];exact h _ (bK hi)
 ·rw[fJ,List.getElem?_eq_none ϑ];exact⟨by decide,by decide⟩
theorem sF {α:Type} {l:List α} {i:Nat} {x y:α} (h:y∈l.set i x):y=x∨y∈l:=by
 rcases List.mem_or_eq_of_mem_set h with h|h
 ·exact .inr h
 ·exact .inl h
theorem Xo {l:List Int} (h: ∀x∈l,0<=x/\x<=30):0<=kK l:=(Bg ϑ h).1
theorem Jn {l:List Int} (h: ∀x∈l,0<=x/\x<=30):0<kK l↔l.any (fun x=>decide (0<x))=true:=by
 induction l with
 |nil=>simp[kK]
 |cons x l ih=>
  have h1:=h x ϕ;have h2:=Xo (l:=l) (fun y hy=>h y (by simp[hy]));have h3:=ih (fun y hy=>h y (by simp[hy]));rw[List.any_cons,Bool.or_eq_true, <-h3,dR];simp only[kK];omega
theorem Mq (l:List Int):kK (l++[0])=kK l:=by rw[Jo];simp[kK]
open Go.Lib
abbrev Bp (k:Nat):UInt8:=UInt8.ofNat (48+k)
theorem kJ {k:Nat} (h:k<10):(Bp k).toNat=48+k:=by simp[Bp];omega
theorem zR {k:Nat} (h:k<10):fw (Bp k)=true:=by
 simp only[fw,kJ h,dL,dR];omega
theorem abq {k:Nat} (h:k<10) (h1:1<=k):Bp k≠48:=fun e=>by
 have:=congrArg UInt8.toNat e;rw[kJ h] at this;have h2:(48:UInt8).toNat=48:=by decide
 omega
theorem IA {c:UInt8} (h:fw c=true): ∃k,k<10/\c=Bp k:=by
 simp only[fw,dL,dR] at h;refine⟨c.toNat-48,by omega,?_⟩;apply UInt8.toNat_inj.1;rw[kJ ϑ];omega
theorem kU {u:Nat} (h:u<10):decDigits u=[Bp u]:=by rw[decDigits,dif_pos h]
theorem vL {u:Nat} (h: ¬u<10):decDigits u=decDigits (u/10)++[Bp (u%10)]:=by rw[decDigits,dif_neg h]
theorem VP: ∀u, ∀c∈decDigits u, ∃k,k<10/\c=Bp k:=by
 intro u;induction u using Nat.strongRecOn with
 |_ u ih=>
  intro c hc;by_cases h:u<10
  ·rw[kU h] at hc;obtain rfl:=dY.1 hc;exact⟨u,h,rfl⟩
  ·rw[vL h] at hc;rcases gz.1 hc with hc|hc
   ·exact ih _ ϑ c hc
   ·obtain rfl:=dY.1 hc;exact⟨u%10,by omega,rfl⟩
theorem VK (u:Nat):1<=(decDigits u).length:=by
 by_cases h:u<10
 ·rw[kU h];exact ah _
 ·rw[vL h];simp
theorem vT (s:au) (c:UInt8):nC (s++[c])=10*nC s+((c.toNat:Int)-48):=by unfold nC;rw[List.foldl_append];rfl
theorem Xb (u:Nat):nC (decDigits u)=u:=by
 induction u using Nat.strongRecOn with
 |_ u ih=>
  by_cases h:u<10
  ·rw[kU h];show 10*(0:Int)+(((Bp u).toNat:Int)-48)=u;rw[kJ h];omega
  ·rw[vL h,vT,ih _ ϑ,kJ ϑ];omega
theorem NT: ∀(k u:Nat),u<10^(k+1)->(decDigits u).length<=k+1:=by
 intro k;induction k with
 |zero=>intro u h;rw[kU ϑ];exact ah _
 |succ k ih=>
  intro u h;by_cases hu:u<10
  ·rw[kU hu];simp
  ·rw[vL hu,bR];have:=ih (u/10) (by rw[Nat.pow_succ] at h;omega);simp only[List.length_singleton];omega
theorem ae0 (u:Nat):u<10^(decDigits u).length:=by
 induction u using Nat.strongRecOn with
 |_ u ih=>
  by_cases h:u<10
  ·rw[kU h];simpa using h
  ·rw[vL h,bR,List.length_singleton,Nat.pow_succ];have:=ih (u/10) ϑ;omega
theorem Yw {u:Nat} (h1:1<=u):(decDigits u).headD 0≠48:=by
 induction u using Nat.strongRecOn with
 |_ u ih=>
  by_cases h:u<10
  ·rw[kU h];exact abq h h1
  ·rw[vL h];have h2:=ih (u/10) ϑ ϑ;have h3:=VK (u/10);cases hd:decDigits (u/10) with
   |nil=>rw[hd] at h3;simp at h3
   |cons a l=>rw[hd] at h2;exact h2
theorem Xz {u:Nat} (h:u<10000):jO (decDigits u)=some (u:Int):=by
 have h1:=VK u;have h2:=NT 3 u (by simpa using h);have h3:(decDigits u).all fw=true:=by
  rw[iR];intro c hc;obtain⟨k,hk,rfl⟩:=VP u c hc;exact zR hk
 unfold jO;rw[aB,Xb];unfold wZ;rw[h3,decide_eq_true h1,decide_eq_true h2];by_cases hu:u=0
 ·subst hu;rw[kU ϑ];decide
 ·rw[decide_eq_true (Yw (u:=u) ϑ)];rfl
theorem Yv: ∀(k:Nat) (s:au),s.length=k+1->s.all fw=true->(s.headD 0≠48∨s.length=1)->decDigits (nC s).toNat=s:=by
 intro k;induction k with
 |zero=>
  intro s hl hd _;obtain⟨c,rfl⟩:=List.length_eq_one_iff.1 hl;have hc:fw c=true:=by simpa using hd
  obtain⟨j,hj,rfl⟩:=IA hc;show decDigits (10*(0:Int)+(((Bp j).toNat:Int)-48)).toNat=_;rw[kJ hj,show(10*(0:Int)+(((48+j:Nat):Int)-48)).toNat=j from ϑ,kU hj]
 |succ k ih=>
  intro s hl hd hh;obtain⟨t,c,rfl⟩: ∃t c,s=t++[c]:=by
   rcases List.eq_nil_or_concat s with rfl|⟨t,c,rfl⟩
   ·simp at hl
   ·exact⟨t,c,by simp⟩
  have hl':t.length=k+1:=by simpa using hl
  rw[List.all_append,dL] at hd;have hc:fw c=true:=by simpa using hd.2
  obtain⟨j,hj,rfl⟩:=IA hc;have hne:t.headD 0≠48:=by
   rcases hh with hh|hh
   ·cases t with
    |nil=>simp at hl'
    |cons a t=>exact hh
   ·rw[hl] at hh;omega
  have h1:=ih t hl' hd.1 (.inl hne);have hb:=GK t 0 ϑ hd.1;have hpos:1<=nC t:=by
   have hnn:0<=nC t:=by unfold nC;omega
   by_cases hz:nC t=0
   ·rw[hz] at h1;have h48:decDigits (0:Int).toNat=[48]:=by rw[show(0:Int).toNat=0 from rfl,kU ϑ];rfl
    rw[h48] at h1;rw[<-h1] at hne;exact absurd rfl hne
   ·omega
  rw[vT,kJ hj,vL ϑ];rw[show(10*nC t+(((48+j:Nat):Int)-48)).toNat/10=(nC t).toNat from ϑ,show(10*nC t+(((48+j:Nat):Int)-48)).toNat%10=j from ϑ,h1]
theorem Bh {s:au} {v:Int} (h:jO s=some v):s=decDigits v.toNat/\s.length<=4:=by
 unfold jO at h;split at h
 ·rename_i hf;obtain rfl:=gV h;simp only[wZ,dL,Bool.or_eq_true,dR] at hf;obtain⟨⟨⟨h1,h2⟩,h3⟩,h4⟩:=hf;exact⟨(Yv (s.length-1) s ϑ h4 h3).symm,h2⟩
 ·cases h
theorem KP {c:UInt8} (h:fw c=true):digitVal c=some (c.toNat-48):=by
 simp only[fw,dL,dR] at h;unfold digitVal;rw[aB h]
theorem NS: ∀(s:au) (acc:Nat),s.all fw=true-> ∃m:Nat,decFrom acc s=some m/\(m:Int)=s.foldl (fun n c=>10*n+((c.toNat:Int)-48)) (acc:Int):=by
 intro s;induction s with
 |nil=>intro acc _;exact⟨acc,rfl,rfl⟩
 |cons c s ih=>
  intro acc h;rw[List.all_cons,dL] at h;obtain⟨m,h1,h2⟩:=ih (acc*10+(c.toNat-48)) h.2;have hd:=h.1;simp only[fw,dL,dR] at hd;refine⟨m,by rw[decFrom,KP h.1];exact h1,?_⟩;rw[h2,List.foldl_cons];congr 1;omega
theorem AP {s:au} {v:Int} (h:jO s=some v):atoi s=some v:=by
 unfold jO at h;split at h
 ·rename_i hf;obtain rfl:=gV h;simp only[wZ,dL,Bool.or_eq_true,dR] at hf;obtain⟨⟨⟨h1,h2⟩,h3⟩,h4⟩:=hf;cases s with
  |nil=>simp at h1
  |cons c s=>
   have hd:=h4;rw[List.all_cons,dL] at hd;have hc:=hd.1;simp only[fw,dL,dR] at hc;have n45:(c==45)=false:=by
    rw[iI];rintro rfl;revert hc;decide
   have n43:(c==43)=false:=by
    rw[iI];rintro rfl;revert hc;decide
   obtain⟨m,e1,e2⟩:=NS (c::s) 0 h4;have e3:atoi (c::s)=(decNat (c::s)).map fun(m:Nat)=>(m:Int):=by
    simp only[atoi,n45,n43,Bool.false_eq_true,if_false]
   rw[e3];unfold decNat;rw[aj ϕ,e1];exact congrArg some e2
 ·cases h
theorem JY {s:au} {v:Int} (h0:0<=v) (hl:s.length<=4) (he:itoa v=s):jO s=some v:=by
 unfold itoa at he;rw[aj ϑ] at he;have h1:=ae0 v.toNat;rw[he] at h1;have h2:v.toNat<10000:=dU h1 (by
  have:=Nat.pow_le_pow_right (show 0<10 by omega) hl;simpa using this)
 have:=Xz h2;rw[he] at this;rw[this];congr 1;omega
theorem UE {s:au} {v:Int} (h:jO s=some v):itoa v=s:=by
 unfold itoa;have:=(Hm h).1;rw[aj ϑ];exact(Bh h).1.symm
def jU (n:Nat):Nat->au
 |0=>[]
 |m+1=>jU (n/10) m++[Bp (n%10)]
theorem jb (m:Nat): ∀n,(jU n m).length=m:=by
 induction m with
 |zero=>intro n;rfl
 |succ m ih=>intro n;simp[jU,ih]
theorem Yu {a b:Nat} (ha:a<10) (hb:b<10) (h:Bp a=Bp b):a=b:=by
 have:=congrArg UInt8.toNat h;rw[kJ ha,kJ hb] at this;omega
theorem VH: ∀(m a b:Nat),a<10^m->b<10^m->jU a m=jU b m->a=b:=by
 intro m;induction m with
 |zero=>intro a b ha hb _;simp at ha hb;omega
 |succ m ih=>
  intro a b ha hb h;rw[Nat.pow_succ] at ha hb;obtain⟨h1,h2⟩:=List.append_inj h (by rw[jb,jb]);have h3:=ih _ _ ϑ ϑ h1;have h4:=Yu ϑ ϑ (List.cons.inj h2).1;omega
def iQ:Nat->au->Nat
 |_,[]=>0
 |k,c::l=>k*c.toNat+iQ (k+1) l
def jf (i:Nat) (F7:au):Nat:=(29*(i+1)+iQ 2 F7)%9949
theorem RZ (i:Nat) (F7:au):jf i F7<10^4:=by
 have:=Nat.mod_lt (29*(i+1)+iQ 2 F7) (show 9949>0 by omega);unfold jf;omega
def bQ (i:Nat) (F7:au):au:=jU F7.length 2++(58::(F7++(58::(jU (jf i F7) 4++[10]))))
theorem fZ (i:Nat) (F7:au):(bQ i F7).length=9+F7.length:=by simp[bQ,jb];omega
def eu (i:Nat):List au->au
 |[]=>[]
 |l::ls=>bQ i l++eu (i+1) ls
def oD (ls:List au):au:=eu 0 ls
theorem Ew: ∀(ls:List au) (i:Nat) (l:au),eu i (ls++[l])=eu i ls++bQ (i+ls.length) l:=by
 intro ls;induction ls with
 |nil=>intro i l;simp[eu]
 |cons x ls ih=>intro i l;simp only[List.cons_append,eu,ih,jg,List.length_cons];rw[show i+1+ls.length=i+(ls.length+1) from by omega]
def isRec (i:Nat) (b:au) (n:Nat):Bool:=decide (9+n<=b.length)&&(bQ i ((b.drop 3).take n)==b.take (9+n))
def nI (i:Nat) (b:au):Option au:=((List.range 61).find? (isRec i b)).map fun n=>(b.drop 3).take n
def cK:Nat->Nat->au->List au
 |0,_,_=>[]
 |f+1,i,b=>match nI i b with
  |none=>[]
  |some l=>l::cK f (i+1) (b.drop (9+l.length))
def gm:List au->Nat
 |[]=>0
 |l::ls=>9+l.length+gm ls
theorem wy {i n:Nat} {b:au}:isRec i b n=true↔ ∃l rest,l.length=n/\b=bQ i l++rest:=by
 unfold isRec;rw[dL,dR,beq_iff_eq];constructor
 ·rintro⟨h1,h2⟩;refine⟨(b.drop 3).take n,b.drop (9+n),by simp;omega,?_⟩;rw[h2,List.take_append_drop]
 ·rintro⟨l,rest,rfl,rfl⟩;have hd:((bQ i l++rest).drop 3).take l.length=l:=by
   have:bQ i l++rest=(jU l.length 2++[58])++(l++(58::(jU (jf i l) 4++[10])++rest)):=by simp[bQ]
   rw[this,List.drop_append_of_le_length (by simp[jb]),List.drop_of_length_le (by simp[jb]),List.nil_append,lH (ah _),List.take_length]
  refine⟨by rw[bR,fZ];omega,?_⟩;rw[hd,lH (by rw[fZ];omega),iT (by rw[fZ];omega)]
theorem OY {i j:Nat} {l m r s:au} (hl:l.length<=60) (hm:m.length<=60) (h:bQ i l++r=bQ j m++s):l.length=m.length:=by
 unfold bQ at h;rw[jg,jg] at h;exact VH 2 _ _ ϑ ϑ (List.append_inj h (by rw[jb,jb])).1
theorem Fa {i:Nat} {l:au} (hl:l.length<=60) (rest:au):nI i (bQ i l++rest)=some l:=by
 unfold nI;have h1:(List.range 61).find? (isRec i (bQ i l++rest))=some l.length:=by
  rw[List.find?_range_eq_some];refine⟨wy.2 ⟨l,rest,rfl,rfl⟩,jL.2 ϑ,fun n hn=>?_⟩;rw[Bool.not_eq_true', <-Bool.not_eq_true];intro hc;obtain⟨m,s,hm,he⟩:=wy.1 hc;have:=OY hl ϑ he;omega
 rw[h1];have:=(wy (i:=i) (n:=l.length)).2 ⟨l,rest,rfl,rfl⟩;unfold isRec at this;rw[dL,beq_iff_eq] at this;rw[Option.map_some];congr 1;have h2:bQ i l++rest=(jU l.length 2++[58])++(l++(58::(jU (jf i l) 4++[10])++rest)):=by simp[bQ]
 rw[h2,List.drop_append_of_le_length (by simp[jb]),List.drop_of_length_le (by simp[jb]),List.nil_append,lH (ah _),List.take_length]
theorem xc {i:Nat} {b l:au} (h:nI i b=some l):l.length<=60/\ ∃rest,b=bQ i l++rest:=by
 unfold nI at h;cases hf:(List.range 61).find? (isRec i b) with
 |none=>rw[hf] at h;cases h
 |some n=>
  rw[hf] at h;obtain rfl:=gV h;obtain⟨h1,h2,_⟩:=List.find?_range_eq_some.1 hf;obtain⟨l,rest,rfl,rfl⟩:=wy.1 h1;have h3:bQ i l++rest=(jU l.length 2++[58])++(l++(58::(jU (jf i l) 4++[10])++rest)):=by simp[bQ]
  have h4:((bQ i l++rest).drop 3).take l.length=l:=by
   rw[h3,List.drop_append_of_le_length (by simp[jb]),List.drop_of_length_le (by simp[jb]),List.nil_append,lH (ah _),List.take_length]
  show((bQ i l++rest).drop 3 |>.take l.length).length<=60/\ ∃aac,bQ i l++rest=bQ i ((bQ i l++rest).drop 3 |>.take l.length)++aac
  rw[h4];exact⟨by have:=jL.1 h2;omega,rest,rfl⟩
theorem Bw {i:Nat} {b:au} (h: ∀l rest,l.length<=60->b≠bQ i l++rest):nI i b=none:=by
 cases hw:nI i b with
 |none=>rfl
 |some l=>obtain⟨h1,r,h2⟩:=xc hw;exact absurd h2 (h l r h1)
theorem uV: ∀(f i:Nat) (b:au),(cK f i b).length<=f:=by
 intro f;induction f with
 |zero=>intro i b;exact ah _
 |succ f ih=>
  intro i b;unfold cK;split
  ·simp
  ·rename_i l _;have:=ih (i+1) (b.drop (9+l.length));simp only[List.length_cons];omega
theorem xq: ∀(f i:Nat) (b:au), ∀l∈cK f i b,l.length<=60:=by
 intro f;induction f with
 |zero=>intro i b l hl;cases hl
 |succ f ih=>
  intro i b l hl;unfold cK at hl;split at hl
  ·cases hl
  ·rename_i x hx;rcases eB.1 hl with rfl|hl
   ·exact(xc hx).1
   ·exact ih _ _ l hl
theorem Qo: ∀(f i:Nat) (b:au),gm (cK f i b)<=b.length:=by
 intro f;induction f with
 |zero=>intro i b;exact bD _
 |succ f ih=>
  intro i b;unfold cK;split
  ·simp[gm]
  ·rename_i l hl;obtain⟨_,r,rfl⟩:=xc hl;have h1:(bQ i l++r).drop (9+l.length)=r:=by rw[List.drop_append_of_le_length (by rw[fZ];omega),List.drop_of_length_le (by rw[fZ];omega),List.nil_append]
   rw[h1];have:=ih (i+1) r;simp only[gm,bR,fZ];omega
theorem tQ: ∀(ls:List au) (i:Nat),(eu i ls).length=gm ls:=by
 intro ls;induction ls with
 |nil=>intro i;rfl
 |cons l ls ih=>intro i;simp[eu,gm,fZ,ih]
theorem zq (a b:List au):gm (a++b)=gm a+gm b:=by
 induction a with
 |nil=>simp[gm]
 |cons x a ih=>simp only[List.cons_append,gm,ih];omega
theorem JE: ∀(ls:List au) (f i:Nat) (n:Nat),(∀l∈ls,l.length<=60)->ls.length<=f->
 ∃m,m<=ls.length/\cK f i ((eu i ls).take n)=ls.take m/\gm (ls.take m)<=n/\(m=ls.length∨n<gm (ls.take (m+1))):=by
 intro ls;induction ls with
 |nil=>
  intro f i n _ _;refine⟨0,ah _,?_,bD _,.inl rfl⟩;cases f with
  |zero=>rfl
  |succ f=>
   have:nI i ((eu i []).take n)=none:=Bw fun l rest _ h=>by
    have:=congrArg List.length h;simp[eu,fZ] at this;omega
   unfold cK;rw[this];rfl
 |cons l ls ih=>
  intro f i n hl hf;obtain⟨f,rfl⟩: ∃g,f=g+1:=⟨f-1,by simp at hf;omega⟩;have hl0:=hl l ϕ;by_cases hn:9+l.length<=n
  ·obtain⟨m,h1,h2,h3,h4⟩:=ih f (i+1) (n-(9+l.length)) (fun x hx=>hl x (by simp[hx])) (by simpa using hf);have e:(eu i (l::ls)).take n=bQ i l++(eu (i+1) ls).take (n-(9+l.length)):=by
    rw[eu,List.take_append,fZ,iT (by rw[fZ];omega)]
   refine⟨m+1,by simpa using h1,?_,?_,?_⟩
   ·rw[e];unfold cK;rw[Fa hl0];simp only[List.take_succ_cons];rw[List.drop_append_of_le_length (by rw[fZ];omega),List.drop_of_length_le (by rw[fZ];omega),List.nil_append,h2]
   ·simp only[List.take_succ_cons,gm];omega
   ·rcases h4 with h4|h4
    ·exact .inl (by simp[h4])
    ·exact .inr (by simp only[List.take_succ_cons,gm] at h4⊢;omega)
  ·refine⟨0,bD _,?_,bD _,.inr (by simp only[Nat.zero_add,List.take_succ_cons,List.take_zero,gm];omega)⟩;have:nI i ((eu i (l::ls)).take n)=none:=Bw fun x rest hx h=>by
    have h5:eu i (l::ls)=bQ i x++(rest++(eu i (l::ls)).drop n):=by
     rw[<-List.append_assoc, <-h,List.take_append_drop]
    have h6:=OY hl0 hx (show bQ i l++eu (i+1) ls=bQ i x++_ from h5);have h7:=congrArg List.length h;rw[bR,fZ,eO] at h7;omega
   unfold cK;rw[this];rfl
theorem FL {ls:List au} (hl: ∀l∈ls,l.length<=60) (f:Nat) (hf:ls.length<=f) (i:Nat):cK f i (eu i ls)=ls:=by
 obtain⟨m,h1,h2,h3,h4⟩:=JE ls f i (eu i ls).length hl hf;rw[List.take_length] at h2;have hm:m=ls.length:=by
  rcases h4 with h4|h4
  ·exact h4
  ·rw[tQ] at h4;have:gm ls=gm (ls.take (m+1))+gm (ls.drop (m+1)):=by rw[<-zq,List.take_append_drop]
   omega
 rw[h2,hm,List.take_length]
def nW (b:au):Option Nat:=
 if fw (b.getD 0 0)&&fw (b.getD 1 0) then some (10*((b.getD 0 0).toNat-48)+((b.getD 1 0).toNat-48)) else none
def BB (i n:Nat) (b:au):Bool:=
 (b.getD 2 0==58&&b.getD (3+n) 0==58)&&(b.getD (8+n) 0==10&&((b.drop (4+n)).take 4==jU (jf i ((b.drop 3).take n)) 4))
def mP (i:Nat) (b:au):Option au:=
 if b.length<9 then none else match nW b with
  |none=>none
  |some n=>if 60<n∨b.length<9+n then none else if BB i n b then some ((b.drop 3).take n) else none
theorem KO {n:Nat} (h:n<100):jU n 2=[Bp (n/10),Bp (n%10)]:=by
 have:n/10%10=n/10:=ϑ;simp[jU,this]
theorem M8 {i:Nat} {l:au} (hl:l.length<=60) (rest:au):nW (bQ i l++rest)=some l.length:=by
 unfold nW bQ;rw[KO ϑ];simp only[List.cons_append,List.nil_append,jg,df];rw[zR ϑ,zR ϑ,kJ ϑ,kJ ϑ];simp only[Bool.and_self,if_true];congr 1;omega
theorem TV (i:Nat) (l rest:au):bQ i l++rest=(jU l.length 2++[58])++(l++(58::(jU (jf i l) 4++(10::rest)))):=by simp[bQ]
theorem TH {i:Nat} {l:au} (rest:au):((bQ i l++rest).drop 3).take l.length=l/\BB i l.length (bQ i l++rest)=true:=by
 have h3:(jU l.length 2++[58]).length=3:=by simp[jb]
 have hd: ∀k,(bQ i l++rest).drop (3+k)=(l++(58::(jU (jf i l) 4++(10::rest)))).drop k:=fun k=>by
  rw[TV,List.drop_append,List.drop_of_length_le ϑ,List.nil_append,h3];congr 1;omega
 have hd0:=hd 0;rw[Nat.add_zero,List.drop_zero] at hd0;have e1:((bQ i l++rest).drop 3).take l.length=l:=by rw[hd0,lH (ah _),List.take_length]
 have hda: ∀k,(bQ i l++rest).drop (3+l.length+k)=(58::(jU (jf i l) 4++(10::rest))).drop k:=fun k=>by
  rw[show 3+l.length+k=3+(l.length+k) from ϑ,hd,List.drop_append,List.drop_of_length_le ϑ,List.nil_append];congr 1;omega
 have g: ∀k,(bQ i l++rest).getD (3+l.length+k) 0=(58::(jU (jf i l) 4++(10::rest))).getD k 0:=fun k=>by
  have:=congrArg (fun x:au=>x.getD 0 0) (hda k);simpa [fJ,List.getElem?_drop] using this
 have g0:=g 0;have g5:=g 5;have d1:=hda 1;have l4:(jU (jf i l) 4).length=4:=jb 4 _;refine⟨e1,?_⟩;unfold BB;rw[e1];rw[show 8+l.length=3+l.length+5 from ϑ,show 4+l.length=3+l.length+1 from ϑ,g5,d1];rw[Nat.add_zero] at g0;rw[g0];have g2:(bQ i l++rest).getD 2 0=58:=by
  unfold bQ;generalize hq:jU l.length 2=q;have hq2:q.length=2:=by rw[<-hq];exact jb 2 _
  obtain⟨a,b,rfl⟩: ∃a b,q=[a,b]:=by
   match q,hq2 with
   |[a,b],_=>exact⟨a,b,rfl⟩
  simp
 rw[g2];generalize hq:jU (jf i l) 4=q at*
 obtain⟨a,b,c,d,rfl⟩: ∃a b c d,q=[a,b,c,d]:=by
  match q,l4 with
  |[a,b,c,d],_=>exact⟨a,b,c,d,rfl⟩
 simp
theorem Ma {i:Nat} {l:au} (hl:l.length<=60) (rest:au):mP i (bQ i l++rest)=some l:=by
 have Ib:(bQ i l++rest).length=9+l.length+rest.length:=by rw[bR,fZ]
 unfold mP;rw[aj ϑ,M8 hl];obtain⟨h1,h2⟩:=TH (i:=i) (l:=l) rest;simp only;rw[aj ϑ,h2,h1];rfl
theorem getD_eq {b:au} {k:Nat} (h:k<b.length):b.getD k 0=b[k]:=by rw[fJ,bZ h,Option.getD_some]
theorem Jh {i:Nat} {b l:au} (h:mP i b=some l):l.length<=60/\ ∃rest,b=bQ i l++rest:=by
 unfold mP at h;split at h
 ·cases h
 rename_i h9;split at h
 ·cases h
 rename_i n hn;split at h
 ·cases h
 rename_i hb;split at h
 ·rename_i ht;obtain rfl:=gV h;have hll:((b.drop 3).take n).length=n:=by simp;omega
  refine⟨by omega,b.drop (9+n),?_⟩;unfold nW at hn;split at hn
  ·rename_i hd;rw[dL] at hd;obtain⟨x,hx,ex⟩:=IA hd.1;obtain⟨y,hy,ey⟩:=IA hd.2;have hn':=gV hn;rw[ex,ey,kJ hx,kJ hy] at hn';simp only[BB,dL,beq_iff_eq] at ht;obtain⟨⟨t1,t2⟩,t3,t4⟩:=ht;unfold bQ;rw[hll,KO ϑ,show n/10=x from ϑ,show n%10=y from ϑ, <-ex, <-ey, <-t4];have e0:b=b.take 3++((b.drop 3).take n++b.drop (3+n)):=by
    have h1:(b.drop 3).drop n=b.drop (3+n):=by rw[List.drop_drop]
    rw[<-h1,List.take_append_drop,List.take_append_drop]
   have e1:b.take 3=[b.getD 0 0,b.getD 1 0,58]:=by
    rw[<-t1]
    match b,h9 with
    |x::y::z::b,_=>rfl
    |[x,y],h=>simp at h
    |[x],h=>simp at h
    |[],h=>simp at h
   have e2:b.drop (3+n)=58::((b.drop (4+n)).take 4++(10::b.drop (9+n))):=by
    have q1:b.drop (3+n)=b.getD (3+n) 0::b.drop (4+n):=by
     rw[rM (show 3+n<b.length by omega),getD_eq (show 3+n<b.length by omega)];congr 2;omega
    have q2:b.drop (8+n)=b.getD (8+n) 0::b.drop (9+n):=by
     rw[rM (show 8+n<b.length by omega),getD_eq (show 8+n<b.length by omega)];congr 2;omega
    have q3:(b.drop (4+n)).drop 4=b.drop (8+n):=by rw[List.drop_drop];congr 1;omega
    rw[q1,t2, <-t3, <-q2, <-q3,List.take_append_drop]
   rw[jg];have:b=b.take 3++((b.drop 3).take n++(58::((b.drop (4+n)).take 4++(10::b.drop (9+n))))):=by rw[<-e2];exact e0
   rw[e1] at this;simpa using this
  ·cases hn
 ·cases h
theorem Fb (i:Nat) (b:au):mP i b=nI i b:=by
 cases h:mP i b with
 |some l=>
  obtain⟨h1,rest,rfl⟩:=Jh h;rw[Fa h1]
 |none=>
  refine(Bw fun l rest hl he=>?_).symm;rw[he,Ma hl] at h;cases h
theorem uU {a b m:Int}:G7 a b m=true↔a<=b/\b<=m:=by simp[G7]
theorem u6 {a b m w:Int}:Ht a b m w=true↔a<=b/\b<=m/\b<=a+w:=by simp[Ht,and_assoc]
theorem mem_erase {α:Type} {l:List α} {i:Nat} {x:α} (h:x∈l.eraseIdx i):x∈l:=List.mem_of_mem_eraseIdx h
theorem wE {α:Type} (l:List α) (i:Nat):(l.eraseIdx i).length<=l.length:=List.length_eraseIdx_le l i
theorem Wh {s:iC} (hG:eD s) (c:jl) {n:List Int} (hn: ∀x∈n,0<=x/\x<=9999) (h0:(gZ s c n).1=0):eD (gZ s c n).2:=by
 have n0:=Bn hn 0;have n1:=Bn hn 1;have n2:=Bn hn 2;have n3:=Bn hn 3;cases c <;>simp only[gZ] at h0⊢
 case row=>
  split at h0 <;>first|omega|skip
  rename_i h1;rw[aj h1];have:=hG.rows;have:=hG.left;exact {hG with rows:=by simp only;omega,left:=by simp only;omega,uH:=fun t ht=>by have:=hG.uH t ht;simp only at*;omega}
 case left=>
  split at h0 <;>first|omega|skip
  rename_i h1;rw[aj h1];rw[Bool.not_eq_false,uU] at h1;exact {hG with left:=by simp only;omega}
 case tally=>
  repeat' (split at h0;· omega)
  rename_i h1 h2 h3 h4 h5;rw[aj h1,aj h2,aj h3,aj h4,aj h5];rw[Bool.not_eq_false,uU] at h4;have hw:=hG.aJ;refine {hG with A7:=by simp[kY];omega,uH:=fun t ht=>?_}
  rcases gz.1 ht with ht|ht
  ·exact hG.uH t ht
  ·obtain rfl:=dY.1 ht;simp only[kY];omega
 case xS=>
  repeat' (split at h0;· omega)
  rename_i h1 h2;rw[aj h1,aj h2];rw[Bool.not_eq_false,uU] at h2;refine {hG with A7:=by simp[kY];exact hG.A7,uH:=fun t ht=>?_}
  rcases sF ht with rfl|ht
  ·have hk:(n.getD 0 0).toNat<s.led.field.ax.length:=ϑ;have:=hG.uH _ (bK hk);rw[fJ (l:=s.led.field.ax),bZ hk,Option.getD_some];simp only[kY];omega
  ·exact hG.uH t ht
 case kF=>
  repeat' (split at h0;· omega)
  rename_i h1;rw[aj h1];exact {hG with A7:=gI (wE _ _) hG.A7,uH:=fun t ht=>hG.uH t (mem_erase ht)}
 case rate=>
  repeat' (split at h0;· omega)
  rename_i h1;rw[aj h1];exact {hG with rate:=by simp only;omega}
 case box=>
  repeat' (split at h0;· omega)
  rename_i h1;rw[aj h1];rw[Bool.not_eq_false,uU] at h1;exact {hG with box:=by simp only;omega}
 case note=>
  repeat' (split at h0;· omega)
  rename_i h1 h2 h3;rw[aj h1,aj h2,aj h3];rw[Bool.not_eq_false,uU] at h2;have hw:=hG.aJ;refine {hG with notes:=by simp[mq];omega,note:=fun t ht=>?_}
  rcases gz.1 ht with ht|ht
  ·exact hG.note t ht
  ·obtain rfl:=dY.1 ht;simp only;omega
 case void=>
  repeat' (split at h0;· omega)
  rename_i h1;rw[aj h1];exact {hG with notes:=gI (wE _ _) hG.notes,note:=fun t ht=>hG.note t (mem_erase ht)}
 case start=>
  repeat' (split at h0;· omega)
  rename_i h1;rw[aj h1];rw[Bool.not_eq_false,u6] at h1;exact {hG with start:=by simp only[gK];omega}
 case bM=>
  repeat' (split at h0;· omega)
  rename_i h1 h2;rw[aj h1,aj h2];rw[Bool.not_eq_false,u6] at h2;refine {hG with Qa:=by simp[gK];exact hG.Qa,bM:=fun r hr=>?_}
  rcases sF hr with rfl|hr
  ·simp only;omega
  ·exact hG.bM r hr
 case turn=>
  repeat' (split at h0;· omega)
  rename_i h1 h2;rw[aj h1,aj h2];exact {hG with turns:=⟨_,by simp only[gK,hG.heap.1];rfl⟩}
 case mQ=>
  repeat' (split at h0;· omega)
  rename_i h1;rw[aj h1];exact {hG with turns:=⟨_,by simp only[gK,hG.heap.1];rfl⟩}
 case yw=>
  repeat' (split at h0;· omega)
  rename_i h1 h2 h3;rw[aj h1,aj h2,aj h3];have hl:=hG.heap.1;refine {hG with reads:=by simp[gK];omega,read:=fun t ht=>?_}
  rcases gz.1 ht with ht|ht
  ·exact hG.read t ht
  ·obtain rfl:=dY.1 ht;simp only;omega
 case unread=>
  repeat' (split at h0;· omega)
  rename_i h1;rw[aj h1];exact {hG with reads:=gI (wE _ _) hG.reads,read:=fun t ht=>hG.read t (mem_erase ht)}
 case heap=>
  repeat' (split at h0;· omega)
  rename_i h1 h2;rw[aj h1,aj h2];rw[Bool.not_eq_false,u6] at h1;refine {hG with Og:=by simp[eF];omega,cz:=fun r hr=>?_,aR:=by simp[eF];exact hG.aR,nE:=fun l hl=>?_,trial:=fun t ht=>?_}
  ·rcases gz.1 hr with hr|hr
   ·exact hG.cz r hr
   ·obtain rfl:=dY.1 hr;simp only;omega
  ·obtain⟨m,hm,rfl⟩:=gU.1 hl;have:=hG.nE m hm;refine⟨by simp[eF,this.1],fun x hx=>?_,by rw[Mq];exact this.2.2⟩;rcases gz.1 hx with hx|hx
   ·exact this.2.1 x hx
   ·obtain rfl:=dY.1 hx;decide
  ·have:=hG.trial t ht;simp only[eF,kC];exact this
 case strong=>
  repeat' (split at h0;· omega)
  rename_i h1 h2;rw[aj h1,aj h2];rw[Bool.not_eq_false,u6] at h2;refine {hG with Og:=by simp[eF];exact hG.Og,cz:=fun r hr=>?_,nE:=fun l hl=>by simp[eF];exact hG.nE l hl}
  rcases sF hr with rfl|hr
  ·simp only;omega
  ·exact hG.cz r hr
 case nE=>
  repeat' (split at h0;· omega)
  rename_i h1 h2 h3;rw[aj h1,aj h2,aj h3];have hk:(n.getD 0 0).toNat<s.cz.heaps.length:=ϑ;have hx: ∀x∈(List.replicate s.cz.heaps.length (0:Int)).set (n.getD 0 0).toNat (n.getD 1 0),0<=x/\x<=30:=fun x hx=>by
   rcases sF hx with rfl|hx
   ·omega
   ·obtain rfl:=List.eq_of_mem_replicate hx;decide
  refine {hG with aR:=by simp[eF];omega,nE:=fun l hl=>?_,trial:=fun t ht=>?_}
  ·rcases gz.1 hl with hl|hl
   ·exact hG.nE l hl
   ·obtain rfl:=dY.1 hl;refine⟨by simp[eF],hx,(Jn hx).2 ?_⟩;rw[List.any_eq_true];exact⟨n.getD 1 0,List.mem_iff_getElem.2 ⟨(n.getD 0 0).toNat,by simpa using hk,List.getElem_set_self _⟩,decide_eq_true ϑ⟩
  ·have:=hG.trial t ht;simp only[eF,bR,List.length_singleton];exact⟨this.1,by omega,this.2.2⟩
 case fill=>
  repeat' (split at h0;· omega)
  rename_i h1 h2 h3 h4;rw[aj h1,aj h2,aj h3,aj h4];have hk:(n.getD 0 0).toNat<s.cz.aR.length:=ϑ;have hb:=hG.nE _ (bK hk);rw[fJ (l:=s.cz.aR),bZ hk,Option.getD_some] at h4⊢;have hx: ∀x∈s.cz.aR[(n.getD 0 0).toNat].set (n.getD 1 0).toNat (n.getD 2 0),0<=x/\x<=30:=fun x hx=>by
   rcases sF hx with rfl|hx
   ·omega
   ·exact hb.2.1 x hx
  refine {hG with aR:=by simp[eF];exact hG.aR,nE:=fun l hl=>?_,trial:=fun t ht=>?_}
  ·rcases sF hl with rfl|hl
   ·exact⟨by rw[nQ];exact hb.1,hx,(Jn hx).2 (by simpa using h4)⟩
   ·exact hG.nE l hl
  ·have:=hG.trial t ht;simp only[eF,nQ];exact this
 case xU=>
  repeat' (split at h0;· omega)
  rename_i h1 h2 h3;rw[aj h1,aj h2,aj h3];rw[Bool.not_eq_false,u6] at h2;refine {hG with aI:=by simp[eF];omega,trial:=fun t ht=>?_}
  rcases gz.1 ht with ht|ht
  ·exact hG.trial t ht
  ·obtain rfl:=dY.1 ht;exact⟨rfl,by simp only[eF];omega,by simp only;omega⟩
 case rf=>
  repeat' (split at h0;· omega)
  rename_i h1;rw[aj h1];exact {hG with aI:=gI (wE _ _) hG.aI,trial:=fun t ht=>hG.trial t (mem_erase ht)}
section
variable (st : iC → Int)
def mM (s:iC) (F7:au):iC×Int:=
 match nG F7 with
 |none=>(s,4)
 |some (c,n)=>if(gZ s c n).1≠0 then(s,(gZ s c n).1) else if st (gZ s c n).2≠0 then(s,st (gZ s c n).2) else((gZ s c n).2,0)
def bW:iC->List au->iC×List Int
 |s,[]=>(s,[])
 |s,l::ls=>((bW (mM st s l).1 ls).1,(mM st s l).2::(bW (mM st s l).1 ls).2)
def oI:iC->List au->List au
 |_,[]=>[]
 |s,l::ls=>if(mM st s l).2=0 then l::oI (mM st s l).1 ls else oI (mM st s l).1 ls
variable {st}
theorem yK {s:iC} {F7:au} (h:nG F7=none):mM st s F7=(s,4):=by unfold mM;rw[h]
theorem yJ {s:iC} {F7:au} {c:jl} {n:List Int} (h:nG F7=some (c,n)):
 mM st s F7=if(gZ s c n).1≠0 then(s,(gZ s c n).1) else if st (gZ s c n).2≠0 then(s,st (gZ s c n).2) else((gZ s c n).2,0):=by unfold mM;rw[h]
theorem ZH {s:iC} {F7:au} (h:(mM st s F7).2=0): ∃c n,nG F7=some (c,n)/\(gZ s c n).1=0/\st (gZ s c n).2=0/\mM st s F7=((gZ s c n).2,0):=by
 cases hp:nG F7 with
 |none=>rw[yK hp] at h;cases h
 |some x=>
  obtain⟨c,n⟩:=x;rw[yJ hp] at h⊢;split at h
  ·rename_i h1;exact absurd h h1
  ·rename_i h1;split at h
   ·rename_i h2;exact absurd h h2
   ·rename_i h2;rw[aj h1,aj h2];exact⟨c,n,rfl,by simpa using h1,by simpa using h2,rfl⟩
theorem KN {s:iC} {F7:au} (h:(mM st s F7).2≠0):(mM st s F7).1=s:=by
 cases hp:nG F7 with
 |none=>rw[yK hp]
 |some x=>
  obtain⟨c,n⟩:=x;rw[yJ hp] at h⊢;split
  ·rfl
  ·rename_i h1;split
   ·rfl
   ·rename_i h2;rw[aj h1,aj h2] at h;exact absurd rfl h
theorem Yr {s:iC} (hG:eD s) (F7:au):eD (mM st s F7).1:=by
 by_cases h:(mM st s F7).2=0
 ·obtain⟨c,n,h1,h2,_,h4⟩:=ZH h;rw[h4];exact Wh hG c (qx h1).2.2.1 h2
 ·rw[KN h];exact hG
theorem RO {s:iC} (hs:st s=0) (F7:au):st (mM st s F7).1=0:=by
 by_cases h:(mM st s F7).2=0
 ·obtain⟨c,n,_,_,h3,h4⟩:=ZH h;rw[h4];exact h3
 ·rw[KN h];exact hs
theorem wh: ∀(ls:List au) {s:iC},eD s->eD (bW st s ls).1:=by
 intro ls;induction ls with
 |nil=>intro s h;exact h
 |cons l ls ih=>intro s h;exact ih (Yr h l)
theorem JK: ∀(ls:List au) {s:iC},st s=0->st (bW st s ls).1=0:=by
 intro ls;induction ls with
 |nil=>intro s h;exact h
 |cons l ls ih=>intro s h;exact ih (RO h l)
theorem BP: ∀(ls:List au) (s:iC),(bW st s ls).2.length=ls.length:=by
 intro ls;induction ls with
 |nil=>intro s;rfl
 |cons l ls ih=>intro s;simp[bW,ih]
theorem JL: ∀(a b:List au) (s:iC),bW st s (a++b)=((bW st (bW st s a).1 b).1,(bW st s a).2++(bW st (bW st s a).1 b).2):=by
 intro a;induction a with
 |nil=>intro b s;rfl
 |cons x a ih=>intro b s;simp only[List.cons_append,bW,ih]
theorem zA (ls:List au) (l:au) (s:iC):bW st s (ls++[l])=((mM st (bW st s ls).1 l).1,(bW st s ls).2++[(mM st (bW st s ls).1 l).2]):=by
 rw[JL];rfl
theorem JM: ∀(ls:List au) (s:iC),(bW st s (oI st s ls)).1=(bW st s ls).1/\(∀e∈(bW st s (oI st s ls)).2,e=0):=by
 intro ls;induction ls with
 |nil=>intro s;exact⟨rfl,fun e h=>by cases h⟩
 |cons l ls ih=>
  intro s;unfold oI;split
  ·rename_i h;have:=ih (mM st s l).1;refine⟨this.1,fun e he=>?_⟩;rcases eB.1 he with rfl|he
   ·exact h
   ·exact this.2 e he
  ·rename_i h;rw[KN h];have:=ih s;refine⟨?_,this.2⟩;rw[this.1];show _=(bW st (mM st s l).1 ls).1;rw[KN h]
theorem YU: ∀(ls:List au) (s:iC),(∀e∈(bW st s ls).2,e=0)->oI st s ls=ls:=by
 intro ls;induction ls with
 |nil=>intro s _;rfl
 |cons l ls ih=>
  intro s h;unfold oI;rw[aB (h _ (by simp[bW])),ih _ (fun e he=>h e (by simp[bW,he]))]
theorem YV (ls:List au) (s:iC):oI st s (oI st s ls)=oI st s ls:=YU _ _ (JM ls s).2
theorem IW: ∀(a b:List au) (s:iC),oI st s (a++b)=oI st s a++oI st (bW st s a).1 b:=by
 intro a;induction a with
 |nil=>intro b s;rfl
 |cons x a ih=>
  intro b s;simp only[List.cons_append,oI,ih,bW];split <;>rfl
theorem PL: ∀(ls:List au) (s:iC), ∀l∈oI st s ls,l∈ls:=by
 intro ls;induction ls with
 |nil=>intro s l h;cases h
 |cons x ls ih=>
  intro s l h;unfold oI at h;split at h
  ·rcases eB.1 h with rfl|h
   ·simp
   ·simp[ih _ l h]
  ·simp[ih _ l h]
theorem yR: ∀(ls:List au) (s:iC),(oI st s ls).length<=ls.length:=by
 intro ls;induction ls with
 |nil=>intro s;exact ah _
 |cons x ls ih=>
  intro s;unfold oI;split
  ·simp only[List.length_cons];have:=ih (mM st s x).1;omega
  ·simp only[List.length_cons];have:=ih (mM st s x).1;omega
theorem Wi {ls:List au} {s:iC} (h:oI st s ls=ls) (m:Nat):oI st s (ls.take m)=ls.take m/\oI st (bW st s (ls.take m)).1 (ls.drop m)=ls.drop m:=by
 have h1:oI st s (ls.take m)++oI st (bW st s (ls.take m)).1 (ls.drop m)=ls.take m++ls.drop m:=by rw[<-IW,List.take_append_drop,h]
 have h2:=yR (st:=st) (ls.take m) s;have h3:=yR (st:=st) (ls.drop m) (bW st s (ls.take m)).1;have h4:=congrArg List.length h1;rw[bR,bR] at h4;exact List.append_inj h1 ϑ
end
theorem wu {last:Int} {p:Int->Bool} {i:Int}:i∈il last p↔(0<=i/\i<=last)/\p i=true:=by
 unfold il;rw[List.mem_filter,gU];constructor
 ·rintro⟨⟨k,hk,rfl⟩,hp⟩;have:=jL.1 hk;exact⟨by omega,hp⟩
 ·rintro⟨h,hp⟩;exact⟨⟨i.toNat,jL.2 ϑ,by omega⟩,hp⟩
variable {st : iC → Int}
open Go.RowKit Go.RG Go.SL Go.Shelf Go.TB
def dw (l:List Bool):List Value:=l.map fun b=> .bool b
abbrev zb (w:World) (v:Value) (l:List Bool):Prop:=aH 1 w v l.length (dw l)
theorem zb.cell {w:World} {o:Option Addr} {n c:Nat} {l:List Bool} (h:aH 1 w (.slice o n c) n (dw l)) {k:Nat} (hk:k<l.length): ∃b off,o=some ⟨b,off,none⟩/\b<w.heap.size/\w.cell? ⟨b,off+k,none⟩=some (.bool l[k]):=by
 obtain⟨hl,o',c',hv,h1,h2,h3,h4⟩:=h;cases hv;have Ib:(dw l).length=l.length:=by simp[dw]
 cases o with
 |none=>have:=h3 rfl;omega
 |some a=>
  obtain⟨b,off,sp⟩:=a;obtain⟨hs,hc⟩:=h4 _ rfl;simp only at hs hc;subst hs;have h0:=hc k (.bool l[k]) (by simp[dw,hk]);exact⟨b,off,rfl,dn w _ h0,h0⟩
theorem EN (l:List Bool) (v:Value) (w:World) (hv:zb w v l):Ϝ 174 #[v,.bool true] w (PV (.bool (l.contains true)) w):=by
 have hidx:Ϝ 255 #[v,.bool true] w (fun e w'=>w=w'/\((l.contains true=true/\ ∃k:Nat,k<l.length/\e= .returned (iv k))∨(l.contains true=false/\e= .returned (iv (-1))))):=by
  have Ib:=aH.len hv;obtain⟨o,c,rfl⟩:=aH.open hv;have HV:=aa hv;clear hv;go_enter Tryz.func255,Tryz.ntmps255;go_wp2;go_loop [4,5,8] (fun _ _ i=> ∃k:Nat,k<=l.length/\i= .int .i64 k/\(∀j (hj:j<l.length),j<k->l[j]=false)) (fun _ _ i=>l.length-(intOf i).toNat)
  case atStart=>exact⟨0,bD _,rfl,fun j _ hj=>ϑ⟩
  case round=>
   obtain⟨k,hk,rfl,GX⟩:=hrel;have HN:=aa GX;clear GX;by_cases tX:k<l.length
   ·obtain⟨b,off,rfl,hb,hc0⟩:=zb.cell HV.o tX;cases he:l[k]
    ·rw[he] at hc0;exact zaI
    ·rw[he] at hc0;have HE:=aa he;clear he;go_wp2;go_returns;exact⟨rfl,.inl ⟨by first|exact HE.o▸bK tX|(rw[List.contains_iff_mem, <-HE.o];exact bK _),k,tX,by simp⟩⟩
   ·have XI:k=l.length:=ϑ;go_wp2;go_returns;refine⟨rfl,.inr ⟨?_,by simp⟩⟩;(try rw[<-Bool.not_eq_true,List.contains_iff_mem])
    intro hm;obtain⟨j,hj,e⟩:=kD hm;have:=HN.o j hj ϑ;rw[this] at e;cases e
 have HI:=aa hidx;clear hidx;go_enter Tryz.func174,Tryz.ntmps174;go_wp2_with fail
 refine HI.o.mono ?_;rintro e w' ⟨rfl,⟨hc,k,hk,rfl⟩|⟨hc,rfl⟩⟩
 ·exact zaX
 ·exact zaX
abbrev ji (φ:Int):List PanicEntry:=[{v:= .iface 214 (.agg #[iv φ]),recovered:=false}]
def Ow (φ:Int) (c:Bool) (w:World) (e:Ending) (w':World):Prop:=
 Ϙ w w'/\((c=false/\e= .returned (.tuple #[]))∨(c=true/\e= .panicked (ji φ)))
theorem ME (φ:Int) (l:List Bool) (v:Value) (w:World) (hv:zb w v l):Ϝ 99 #[iv φ,v] w (Ow φ (l.contains true) w):=by
 have H:=aa (EN l v w hv);obtain⟨o,c,rfl⟩:=aH.open hv;clear hv;cases hq:l.contains true
 ·rw[hq] at H;clear hq;go_enter Tryz.func99,Tryz.ntmps99;go_wp2_with fail
  refine H.o.mono ?_;rintro e w' ⟨rfl,hb⟩;go_wp2_with fail
  go_end0
  exact⟨hb,.inl ⟨rfl,by simp⟩⟩
 ·rw[hq] at H;clear hq;go_enter Tryz.func99,Tryz.ntmps99;go_wp2_with fail
  refine H.o.mono ?_;rintro e w' ⟨rfl,hb⟩;go_wp2_with fail
  exact⟨rfl,hb,.inr ⟨rfl,rfl⟩⟩
def fG:jl->Nat
 | .row=>153
 | .left=>154
 | .tally=>155
 | .xS=>156
 | .kF=>157
 | .rate=>158
 | .box=>159
 | .note=>160
 | .void=>161
 | .start=>162
 | .bM=>163
 | .turn=>164
 | .mQ=>165
 | .yw=>166
 | .unread=>167
 | .heap=>168
 | .strong=>169
 | .nE=>170
 | .fill=>171
 | .xU=>172
 | .rf=>173
abbrev WE:=Nat×Nat
abbrev wev (e:WE):Value:= .agg #[iv e.1,.func (.func e.2) #[] #[]]
abbrev Qg (s:ByteArray):Value:= .string s
abbrev fQ (c:jl):ByteArray:=⟨c.word.toArray⟩
def Mo:List (ByteArray×WE):=IV.map fun c=>(fQ c,(c.many,fG c))
theorem Uv (s:ByteArray): ∀l:List jl,TB.look s (l.map fun c=>(fQ c,(c.many,fG c)))=(l.find? fun c=>c.word==s.data.toList).map fun c=>(c.many,fG c):=by
 intro l;induction l with
 |nil=>rfl
 |cons c l ih=>
  rw[List.map_cons,TB.look,List.find?_cons,ih];by_cases h:s=fQ c
  ·subst h;have:(c.word==(fQ c).data.toList)=true:=by simp[fQ]
   rw[aB rfl,this];rfl
  ·have:(c.word==s.data.toList)=false:=by
    rw[iI];intro e;refine h ?_;cases s with
    |mk a=>simp only[fQ] at*;rw[e]
   rw[aj h,this]
theorem Uu (s:ByteArray):TB.look s Mo=(qH s.data.toList).map fun c=>(c.many,fG c):=Uv s IV
theorem Gj (k:TypeId) (hk:Tryz.prog.underlying k=some .string) (a b:ByteArray) (w:World):(Op.equal k (.string a) (.string b)).run Tryz.prog w= .ok (decide (a=b)) w:=by
 unfold Op.equal Op.maxDepth;simp only[go_sem,hk];rw[show(a.toList==b.toList)=decide (a=b) from by rw[Bool.eq_iff_iff,Lib.bytes_beq_iff,dR]]
theorem MW (k:TypeId) (hk:Tryz.prog.underlying k=some .string) (x:Value) (w:World): ∀(es:List MapEntry) (i:Nat) (r:Option (Nat×Value)),Instr.findNow .string x es i=some r->(Instr.findAsking k x es i).run Tryz.prog w= .ok r w:=by
 intro es;induction es with
 |nil=>intro i r h;simp only[Instr.findNow,Option.some.injEq] at h;subst h;rfl
 |cons e es ih=>
  intro i r h;unfold Instr.findNow at h;cases hs:Instr.sameNow .string x e.key with
  |none=>rw[hs] at h;cases h
  |some b=>
   rw[hs] at h;obtain⟨a,c,hx,hc,hb⟩: ∃a c:ByteArray,x= .string a/\e.key= .string c/\b=decide (a=c):=by
    revert hs;cases x <;>cases e.key <;>simp[Instr.sameNow]
    rename_i a c;intro h;rw[<-h];rw[Bool.eq_iff_iff,Go.MapKept.bytes_beq,dR]
   subst hx
   conv=>lhs;unfold Instr.findAsking
   simp only[Sem.run_bind,hc,Gj k hk a c w,Result.andThen_ok];cases b
   ·rw[<-hb];simp only[Bool.false_eq_true,if_false];exact ih (i+1) r h
   ·rw[<-hb];simp only[Option.some.injEq] at h;subst h;simp
theorem qP:SE Tryz.prog 9 Qg (fun _=>True) where
 find w x es:=by
  have hk:Tryz.prog.underlying 9=some .string:=ϰ;cases hn:Instr.findNow .string x es 0 with
  |none=>simp[Instr.findKey,run_underlying hk,hn]
  |some r=>
   rw[MW 9 hk x w es 0 r hn];simp[Instr.findKey,run_underlying hk,hn]
 check b a w _:=by
  unfold Instr.checkKey;simp[go_sem]
 eq a b w _ _:=Gj _ ϰ a b w
 bits a _:=by simp only[Instr.sameBits];exact(Go.MapKept.bytes_beq a a).2 rfl
theorem Xi:TB.store (fQ .rf) (jl.many .rf,fG .rf) (TB.store (fQ .xU) (jl.many .xU,fG .xU) (TB.store (fQ .fill) (jl.many .fill,fG .fill) (TB.store (fQ .nE) (jl.many .nE,fG .nE) (TB.store (fQ .strong) (jl.many .strong,fG .strong) (TB.store (fQ .heap) (jl.many .heap,fG .heap) (TB.store (fQ .unread) (jl.many .unread,fG .unread) (TB.store (fQ .yw) (jl.many .yw,fG .yw) (TB.store (fQ .mQ) (jl.many .mQ,fG .mQ) (TB.store (fQ .turn) (jl.many .turn,fG .turn) (TB.store (fQ .bM) (jl.many .bM,fG .bM) (TB.store (fQ .start) (jl.many .start,fG .start) (TB.store (fQ .void) (jl.many .void,fG .void) (TB.store (fQ .note) (jl.many .note,fG .note) (TB.store (fQ .box) (jl.many .box,fG .box) (TB.store (fQ .rate) (jl.many .rate,fG .rate) (TB.store (fQ .kF) (jl.many .kF,fG .kF) (TB.store (fQ .xS) (jl.many .xS,fG .xS) (TB.store (fQ .tally) (jl.many .tally,fG .tally) (TB.store (fQ .left) (jl.many .left,fG .left) (TB.store (fQ .row) (jl.many .row,fG .row) ([])))))))))))))))))))))=Mo:=by
 decide+kernel
def abL (w:World) (e:Ending) (w':World):Prop:= ∃mb,e= .returned (.map (some mb))/\w.heap.size<=mb/\TabAt Qg wev (fun _=>True) w' mb Mo/\Ϙ w w'
theorem P8 (w:World):Ϝ 98 #[] w (abL w):=by
 have hmm:= @run_makeMap Tryz.prog;have hm:Tryz.prog.underlying 220=some (.map 9 218):=ϰ;have h0:TabAt Qg wev (fun _=>True) (w.alloc (.map #[] 0)) w.heap.size []:=Hr (av _ _);obtain⟨W1,r1,t1,e1⟩:=eH qP hm h0 (fQ .row) trivial (jl.many .row,fG .row);obtain⟨W2,r2,t2,e2⟩:=eH qP hm t1 (fQ .left) trivial (jl.many .left,fG .left);obtain⟨W3,r3,t3,e3⟩:=eH qP hm t2 (fQ .tally) trivial (jl.many .tally,fG .tally);obtain⟨W4,r4,t4,e4⟩:=eH qP hm t3 (fQ .xS) trivial (jl.many .xS,fG .xS);obtain⟨W5,r5,t5,e5⟩:=eH qP hm t4 (fQ .kF) trivial (jl.many .kF,fG .kF);obtain⟨W6,r6,t6,e6⟩:=eH qP hm t5 (fQ .rate) trivial (jl.many .rate,fG .rate);obtain⟨W7,r7,t7,e7⟩:=eH qP hm t6 (fQ .box) trivial (jl.many .box,fG .box);obtain⟨W8,r8,t8,e8⟩:=eH qP hm t7 (fQ .note) trivial (jl.many .note,fG .note);obtain⟨W9,r9,t9,e9⟩:=eH qP hm t8 (fQ .void) trivial (jl.many .void,fG .void);obtain⟨Oq,r10,t10,e10⟩:=eH qP hm t9 (fQ .start) trivial (jl.many .start,fG .start);obtain⟨YW,r11,t11,e11⟩:=eH qP hm t10 (fQ .bM) trivial (jl.many .bM,fG .bM);obtain⟨Tf,r12,t12,e12⟩:=eH qP hm t11 (fQ .turn) trivial (jl.many .turn,fG .turn);obtain⟨W13,r13,t13,e13⟩:=eH qP hm t12 (fQ .mQ) trivial (jl.many .mQ,fG .mQ);obtain⟨PM,r14,t14,e14⟩:=eH qP hm t13 (fQ .yw) trivial (jl.many .yw,fG .yw);obtain⟨Sr,r15,t15,e15⟩:=eH qP hm t14 (fQ .unread) trivial (jl.many .unread,fG .unread);obtain⟨W16,r16,t16,e16⟩:=eH qP hm t15 (fQ .heap) trivial (jl.many .heap,fG .heap);obtain⟨W17,r17,t17,e17⟩:=eH qP hm t16 (fQ .strong) trivial (jl.many .strong,fG .strong);obtain⟨W18,r18,t18,e18⟩:=eH qP hm t17 (fQ .nE) trivial (jl.many .nE,fG .nE);obtain⟨W19,r19,t19,e19⟩:=eH qP hm t18 (fQ .fill) trivial (jl.many .fill,fG .fill);obtain⟨W20,r20,t20,e20⟩:=eH qP hm t19 (fQ .xU) trivial (jl.many .xU,fG .xU);obtain⟨W21,r21,t21,e21⟩:=eH qP hm t20 (fQ .rf) trivial (jl.many .rf,fG .rf);rw[Xi] at t21;have hE:Ext [w.heap.size] (w.alloc (.map #[] 0)) W21:=(e1.trans (e2.trans (e3.trans (e4.trans (e5.trans (e6.trans (e7.trans (e8.trans (e9.trans (e10.trans (e11.trans (e12.trans (e13.trans (e14.trans (e15.trans (e16.trans (e17.trans (e18.trans (e19.trans (e20.trans e21))))))))))))))))))))
 have HB:=aa (show Ϙ w W21 from(ai (aC _ _) _).trans ⟨hE.os,hE.tape,hE.output,hE.size,fun b hb=>hE.block b ϗ ϗ⟩);have HT:=aa t21;have HE:Hid (w.heap.size<=w.heap.size):=aa (ah _);clear h0 hE hm t1 t2 t3 t4 t5 t6 t7 t8 t9 t10 t11 t12 t13 t14 t15 t16 t17 t18 t19 t20 t21 e1 e2 e3 e4 e5 e6 e7 e8 e9 e10 e11 e12 e13 e14 e15 e16 e17 e18 e19 e20 e21;simp only[fQ,jl.word,jl.many,fG,Qg,wev,iv,Int.cast_ofNat_Int,Int.natCast_zero,Int.natCast_one] at r1 r2 r3 r4 r5 r6 r7 r8 r9 r10 r11 r12 r13 r14 r15 r16 r17 r18 r19 r20 r21;go_enter Tryz.func98,Tryz.ntmps98;go_wp2;go_returns;exact⟨_,by simp,ah _,HT.o,HB.o⟩
theorem Lm {w:World} {b n:Nat} {l:List Bool} {cs:Array Value} {t:TypeId} (h:w.heap[b]? =some (.cells cs t (0,0))) (hc:cs.toList=dw l) (hn:n=l.length) (hm:l.length<=100):zb w (.slice (some ⟨b,0,none⟩) n n) l:=by
 subst hn;refine⟨by simp[dw],_,_,rfl,ah _,by simp only[maxLen];omega,(fun h=>by cases h),fun a ha=>?_⟩;cases ha;refine⟨rfl,?_⟩;rw[<-hc];exact uW h
theorem dK (φ:Int) (l:List Bool) (w:World) (hm:l.length<=100) (cs:Array Value) (hc:cs.toList=dw l) (t:TypeId) (n:Nat) (hn:n=l.length):
 Ϝ 99 #[iv φ,.slice (some ⟨w.heap.size,0,none⟩) n n] (w.alloc (.cells cs t)) (Ow φ (l.contains true) w):=by
 refine(ME φ l _ _ (Lm (av _ _) hc hn hm)).mono ?_;rintro e w' ⟨hb,h⟩;exact⟨aV (ai (aC _ _) _) hb,h⟩
theorem om (a b:Int) (w:World):Ϝ 241 #[iv a,iv b] w (Ow 3 (decide (b<=a)) w):=by
 go_enter Tryz.func241,Tryz.ntmps241;go_wp2_with fail
 refine(dK 3 [decide (b<=a)] w ϕ _ (by simp[dw]) _ _ rfl).mono ?_;exact zaM
theorem gX (a b:Int) (w:World):Ϝ 243 #[iv a,iv b] w (Ow 7 (decide (b<=a)) w):=by
 go_enter Tryz.func243,Tryz.ntmps243;go_wp2_with fail
 refine(dK 7 [decide (b<=a)] w ϕ _ (by simp[dw]) _ _ rfl).mono ?_;exact zaM
theorem BM (a b m:Int) (w:World):Ϝ 296 #[iv a,iv b,iv m] w (Ow 2 (decide (b<a) ||decide (m<b)) w):=by
 go_enter Tryz.func296,Tryz.ntmps296;go_wp2_with fail
 refine(dK 2 [decide (b<a),decide (m<b)] w ϕ _ (by simp[dw]) _ _ rfl).mono ?_;exact zaM
theorem xu (a b m k:Int) (w:World) (hx:0<=a/\a<=100000/\0<=k/\k<=100000):Ϝ 247 #[iv a,iv b,iv m,iv k] w (Ow 2 (decide (b<a) ||(decide (m<b) ||decide (a+k<b))) w):=by
 go_enter Tryz.func247,Tryz.ntmps247;go_wp2_with fail
 refine(dK 2 [decide (b<a),decide (m<b),decide (a+k<b)] w ϕ _ (by simp[dw]) _ _ rfl).mono ?_;exact zaM
structure Row where
 t:TypeId
 size:Nat
 v:Value
 n:Nat
 xs:List Value
structure uF (N:Nat) (w:World) (wb:Nat) (R:List Row):Prop where
 own: ∀(i:Nat) (r:Row),R[i]? =some r->w.ownsRow N r.t r.size r.v r.n r.xs
 apart: ∀(i j:Nat) (a b:Row),R[i]? =some a->R[j]? =some b->i≠j->a.v.ownBlock=none∨a.v.ownBlock≠b.v.ownBlock
 off: ∀(i:Nat) (r:Row),R[i]? =some r->r.v.ownBlock≠some wb
 lt:wb<w.heap.size
 base:N<=wb
theorem bU {w W:World} {N:Nat} {t:TypeId} {size:Nat} {v:Value} {n:Nat} {xs:List Value} (h:w.ownsRow N t size v n xs) {Ms:List Nat} (hE:Ext Ms w W) (hM: ∀b,v.ownBlock=some b->b∉Ms):W.ownsRow N t size v n xs:=by
 obtain⟨h1,h2|⟨g,c,cs,rfl,hb,hc,h3⟩⟩:=h
 ·exact⟨h1,.inl h2⟩
 ·exact⟨h1,.inr ⟨g,c,cs,rfl,hb,(hE.block g (aP.1 hc).1 (hM g rfl)).trans hc,h3⟩⟩
theorem uF.keep {N:Nat} {w W:World} {wb:Nat} {R:List Row} (h:uF N w wb R) {Ms:List Nat} (hE:Ext Ms w W) (hM: ∀m∈Ms,m=wb∨m<N):uF N W wb R where
 own i r hr:=bU (h.own i r hr) hE (fun b hb hm=>by
  rcases hM b hm with rfl|h1
  ·exact h.off i r hr hb
  ·have:=((h.own i r hr).lt b hb).1;omega)
 apart:=h.apart
 off:=h.off
 lt:=dU h.lt hE.size
 base:=h.base
theorem uF.put {N:Nat} {w W:World} {wb:Nat} {R:List Row} (h:uF N w wb R) {i:Nat} {r:Row} (hr:R[i]? =some r) (r':Row) {Ms:List Nat} (hE:Ext Ms w W) (hM: ∀m∈Ms,m=wb∨m<N∨r.v.ownBlock=some m)
 (ho:W.ownsRow N r'.t r'.size r'.v r'.n r'.xs) (hb:r'.v.ownBlock=r.v.ownBlock∨r'.v.ownBlock=none∨ ∃k,r'.v.ownBlock=some k/\w.heap.size<=k):uF N W wb (R.set i r'):=by
 have tX:=(gY.1 hr).1;have key: ∀(j:Nat) (x:Row),(R.set i r')[j]? =some x->(j=i/\x=r')∨(j≠i/\R[j]? =some x):=by
  intro j x hx;rw[List.getElem?_set] at hx;by_cases e:i=j
  ·subst e;rw[aB rfl,aB tX] at hx;exact .inl ⟨rfl,(gV hx).symm⟩
  ·rw[aj e] at hx;exact .inr ⟨fun h=>e h.symm,hx⟩
 have new: ∀(j:Nat) (x:Row),R[j]? =some x->j≠i->x.v.ownBlock=none∨x.v.ownBlock≠r'.v.ownBlock:=by
  intro j x hx hj;rcases hb with hb|hb|⟨k,hk,hs⟩
  ·rw[hb];exact h.apart j i x r hx hr hj
  ·rw[hb];cases x.v.ownBlock with
   |none=>exact .inl rfl
   |some b=>exact .inr ϕ
  ·rw[hk];cases hxb:x.v.ownBlock with
   |none=>exact .inl rfl
   |some b=>
    refine .inr fun e=>?_;obtain rfl:=gV e;have:=((h.own j x hx).lt b hxb).2;omega
 refine⟨fun j x hx=>?_,fun j k a b ha hbb hjk=>?_,fun j x hx=>?_,dU h.lt hE.size,h.base⟩
 ·rcases key j x hx with⟨rfl,rfl⟩|⟨hj,hx'⟩
  ·exact ho
  ·refine bU (h.own j x hx') hE (fun b hbb hm=>?_);rcases hM b hm with rfl|h1|h1
   ·exact h.off j x hx' hbb
   ·have:=((h.own j x hx').lt b hbb).1;omega
   ·rcases h.apart j i x r hx' hr hj with h2|h2
    ·rw[h2] at hbb;cases hbb
    ·exact h2 (hbb.trans h1.symm)
 ·rcases key j a ha with⟨rfl,rfl⟩|⟨hj,ha'⟩
  ·rcases key k b hbb with⟨rfl,rfl⟩|⟨hk,hb'⟩
   ·exact absurd rfl hjk
   ·rcases new k b hb' hk with h1|h1
    ·rcases hq:a.v.ownBlock with _|q
     ·exact .inl rfl
     ·exact .inr (by rw[h1];simp)
    ·exact .inr fun e=>h1 e.symm
  ·rcases key k b hbb with⟨rfl,rfl⟩|⟨hk,hb'⟩
   ·exact new j a ha' hj
   ·exact h.apart j k a b ha' hb' hjk
 ·rcases key j x hx with⟨rfl,rfl⟩|⟨hj,hx'⟩
  ·rcases hb with hb|hb|⟨k,hk,hs⟩
   ·rw[hb];exact h.off _ r hr
   ·rw[hb];simp
   ·rw[hk];intro e;obtain rfl:=gV e;have:=h.lt;omega
  ·exact h.off j x hx'
theorem uF.push {N:Nat} {w W:World} {wb:Nat} {R:List Row} (h:uF N w wb R) (r':Row) {Ms:List Nat} (hE:Ext Ms w W) (hM: ∀m∈Ms,m=wb∨m<N)
 (ho:W.ownsRow N r'.t r'.size r'.v r'.n r'.xs) (hb:r'.v.ownBlock=none∨ ∃k,r'.v.ownBlock=some k/\w.heap.size<=k):uF N W wb (R++[r']):=by
 have hk:=h.keep hE hM;have key: ∀(j:Nat) (x:Row),(R++[r'])[j]? =some x->(R[j]? =some x)∨(j=R.length/\x=r'):=by
  intro j x hx;by_cases hj:j<R.length
  ·rw[rP hj] at hx;exact .inl hx
  ·rw[lI ϑ] at hx;have h0:=(gY.1 hx).1;simp only[List.length_cons,List.length_nil] at h0;have:j-R.length=0:=ϑ;rw[this] at hx;simp only[List.getElem?_cons_zero,Option.some.injEq] at hx;exact .inr ⟨by omega,hx.symm⟩
 have new: ∀(j:Nat) (x:Row),R[j]? =some x->(x.v.ownBlock=none∨x.v.ownBlock≠r'.v.ownBlock)/\(r'.v.ownBlock=none∨r'.v.ownBlock≠x.v.ownBlock):=by
  intro j x hx;rcases hb with hb|⟨k,hk,hs⟩
  ·rw[hb];refine⟨?_,.inl rfl⟩;cases x.v.ownBlock with
   |none=>exact .inl rfl
   |some b=>exact .inr ϕ
  ·have:x.v.ownBlock≠some k:=fun e=>by have:=((h.own j x hx).lt k e).2;omega
   rw[hk];exact⟨.inr this,.inr fun e=>this e.symm⟩
 refine⟨fun j x hx=>?_,fun j k a b ha hbb hjk=>?_,fun j x hx=>?_,hk.lt,h.base⟩
 ·rcases key j x hx with h1|⟨_,rfl⟩
  ·exact hk.own j x h1
  ·exact ho
 ·rcases key j a ha with h1|⟨h1,rfl⟩ <;>rcases key k b hbb with h2|⟨h2,rfl⟩
  ·exact h.apart j k a b h1 h2 hjk
  ·exact(new j a h1).1
  ·exact(new k b h2).2
  ·omega
 ·rcases key j x hx with h1|⟨_,rfl⟩
  ·exact h.off j x h1
  ·rcases hb with hb|⟨k,hk,hs⟩
   ·rw[hb];simp
   ·rw[hk];intro e;obtain rfl:=gV e;have:=h.lt;omega
structure SV where
 uH:Value
 QN:Value
 bM:Value
 Ed:Value
 LU:Value
 hps:Value
 cks:Value
 trs:Value
abbrev bP (s:iC) (V:SV):Array Value:=
 #[iv s.led.field.rows,iv s.led.field.aJ,iv s.led.field.left.1,iv s.led.field.left.2,V.uH,iv s.led.rate,iv s.led.box.1,iv s.led.box.2,V.QN,
   iv s.heap.last,iv s.heap.size,iv s.heap.aX,iv s.heap.die,iv s.heap.qW,iv s.heap.start.1,iv s.heap.start.2,V.bM,V.Ed,V.LU,V.hps,V.cks,V.trs]
def wP (e:KE):Row:=⟨3,1,e.1,e.2.length,ag e.2⟩
def gF (s:iC) (V:SV) (es:List KE):List Row:=
 [⟨186,5,V.uH,s.led.field.ax.length,dx s.led.field.ax⟩,⟨188,3,V.QN,s.led.notes.length,aU s.led.notes⟩,
   ⟨50,2,V.bM,s.heap.bM.length,aD s.heap.bM⟩,⟨3,1,V.Ed,s.heap.turns.length,ag s.heap.turns⟩,⟨190,3,V.LU,s.heap.readings.length,aU s.heap.readings⟩,
   ⟨129,2,V.hps,s.cz.heaps.length,aD s.cz.heaps⟩,⟨52,1,V.cks,es.length,dW es⟩,⟨192,4,V.trs,s.cz.aI.length,fH s.cz.aI⟩]++es.map wP
structure iW (N:Nat) (w:World) (wb:Nat) (s:iC) (V:SV) (es:List KE):Prop where
 blk:w.heap[wb]? =some (.cells (bP s V) 228 (0,0))
 rows:uF N w wb (gF s V es)
 es:es.map (·.2)=s.cz.aR
def pU (N:Nat) (w:World) (ns:Value) (l:List Int):Prop:= ∃b c,ns= .slice (some ⟨b,0,none⟩) l.length c/\b<N/\ ∀(j:Nat) (h:j<l.length),w.cell? ⟨b,j,none⟩=some (iv l[j])
def oZ (N:Nat) (wb:Nat) (x:Int×iC) (w:World) (e:Ending) (w':World):Prop:=
 Below N w w'/\((x.1=0/\e= .returned (.tuple #[])/\ ∃V es,iW N w' wb x.2 V es)∨(x.1≠0/\e= .panicked (ji x.1)))
theorem dS {N:Nat} {w:World} {wb:Nat} {s:iC} {V:SV} {es:List KE} (h:iW N w wb s V es):N<=w.heap.size:=by have:=h.rows.lt;have:=h.rows.base;omega
theorem iW.below {N:Nat} {w W:World} {wb:Nat} {s:iC} {V:SV} {es:List KE} (h:iW N w wb s V es) (hb:Ϙ w W):iW N W wb s V es:=
 ⟨(hb.block _ h.rows.lt).trans h.blk,h.rows.keep (Ms:=[]) (Ext.ay hb) ϕ,h.es⟩
theorem iW.store {N:Nat} {w W:World} {wb:Nat} {s s':iC} {V:SV} {es:List KE} (h:iW N w wb s V es) (hE:Ext [wb] w W) (hb:W.heap[wb]? =some (.cells (bP s' V) 228 (0,0))) (hr:gF s' V es=gF s V es) (hc:s'.cz.aR=s.cz.aR):iW N W wb s' V es:=
 ⟨hb,by rw[hr];exact h.rows.keep hE (fun m hm=> .inl (by simpa using hm)),by rw[hc];exact h.es⟩
theorem fq {W:World} {b off:Nat} {v:Value}:Ext [b] W (W.setCell ⟨b,off,none⟩ v):=
 ⟨rfl,rfl,rfl,by simp[World.setCell],fun k _ hm=>heap_setCell_other W _ k v (by simpa using hm)⟩
theorem bI (a b m:Int):(G7 a b m=false)= ¬(a<=b/\b<=m):=by
 unfold G7;by_cases h1:a<=b <;>by_cases h2:b<=m <;>simp[h1,h2]
theorem bJ (a b m k:Int):(Ht a b m k=false)= ¬(a<=b/\b<=m/\b<=a+k):=by
 unfold Ht;by_cases h1:a<=b <;>by_cases h2:b<=m <;>by_cases h3:b<=a+k <;>simp[h1,h2,h3]
def abO (c:Prop) (v:Value) (w:World) (e:Ending) (w':World):Prop:=Ϙ w w'/\((c/\e= .returned v)∨(¬c/\e= .panicked (ji 2)))
theorem sV {N wb:Nat} {x:Int×iC} {w w':World} {c:Int} (h3:Below N w w') (hx:x.1=c) (hc:c≠0):oZ N wb x w (.panicked (ji c)) w':=⟨h3,.inr ⟨by rw[hx];exact hc,by rw[hx]⟩⟩
theorem sD (a b:Int) (w:World):Ϝ 245 #[iv a,iv b] w (abO (a<=b/\b<=2000) (rv (a,b)) w):=by
 go_enter Tryz.func245,Tryz.ntmps245;go_wp2_with fail
 refine(BM _ _ _ _).mono ?_;rintro e w1 ⟨hb,⟨hc,rfl⟩|⟨hc,rfl⟩⟩
 ·simp only[Bool.or_eq_false_iff,decide_eq_false_iff_not] at hc;have HB:=aa hb;obtain⟨c0,f0,l0⟩:=ae ((hb.block w.heap.size ϕ).trans (av _ _));have HC:=aa hc;have c00:=c0 0;have ZM:=c0 1;simp at c00 ZM;have d0:(w1.setCell ⟨w.heap.size,0,none⟩ (iv a)).cell? ⟨w.heap.size,0,none⟩=some (iv a):=World.cell?_setCell_same _ _ _ c00;have d1:((w1.setCell ⟨w.heap.size,0,none⟩ (iv a)).setCell ⟨w.heap.size,1,none⟩ (iv b)).cell? ⟨w.heap.size,1,none⟩=some (iv b):=World.cell?_setCell_same _ _ _ ((World.cell?_setCell_other _ _ _ _ ϕ).trans ZM);clear hb hc c0;go_wp2_with fail
  (try simp only[Exit.inBlock,Exit.then])
  refine bodyPost_ret (v:=rv (a,b)) (by simp[results,Tryz.results245,go_sem,d0,d1]) rfl ?_;exact zbx
 ·exact zbC
theorem rz (a b:Int) (wb:Nat) (s:iC) (V:SV) (w:World) (υ:w.heap[wb]? =some (.cells (bP s V) 228 (0,0))):Ϝ 242 #[.pointer (some ⟨wb,0,none⟩),iv a,iv b] w (abO (a<=b/\b<=s.led.field.rows) (rv (a,b)) w):=by
 obtain⟨k0,g0,j0⟩:=ae υ;clear υ;go_enter Tryz.func242,Tryz.ntmps242;go_wp2_with fail
 refine(BM _ _ _ _).mono ?_;rintro e w1 ⟨hb,⟨hc,rfl⟩|⟨hc,rfl⟩⟩
 ·simp only[Bool.or_eq_false_iff,decide_eq_false_iff_not] at hc;have HB:=aa hb;obtain⟨c0,f0,l0⟩:=ae ((hb.block w.heap.size ϕ).trans (av _ _));have HC:=aa hc;have c00:=c0 0;have ZM:=c0 1;simp at c00 ZM;have d0:(w1.setCell ⟨w.heap.size,0,none⟩ (iv a)).cell? ⟨w.heap.size,0,none⟩=some (iv a):=World.cell?_setCell_same _ _ _ c00;have d1:((w1.setCell ⟨w.heap.size,0,none⟩ (iv a)).setCell ⟨w.heap.size,1,none⟩ (iv b)).cell? ⟨w.heap.size,1,none⟩=some (iv b):=World.cell?_setCell_same _ _ _ ((World.cell?_setCell_other _ _ _ _ ϕ).trans ZM);clear hb hc c0 k0 g0 j0;go_wp2_with fail
  (try simp only[Exit.inBlock,Exit.then])
  refine bodyPost_ret (v:=rv (a,b)) (by simp[results,Tryz.results242,go_sem,d0,d1]) rfl ?_;exact zbx
 ·exact zbC
theorem sU (a b k:Int) (w:World) (hx:0<=a/\a<=100000/\0<=k/\k<=100000):Ϝ 252 #[iv a,iv b,iv k] w (abO (a<=b/\b<=100/\b<=a+k) (rv (a,b)) w):=by
 go_enter Tryz.func252,Tryz.ntmps252;go_wp2_with fail
 refine(xu _ _ _ _ _ hx).mono ?_;rintro e w1 ⟨hb,⟨hc,rfl⟩|⟨hc,rfl⟩⟩
 ·simp only[Bool.or_eq_false_iff,decide_eq_false_iff_not] at hc;have HB:=aa hb;obtain⟨c0,f0,l0⟩:=ae ((hb.block w.heap.size ϕ).trans (av _ _));have HC:=aa hc;have c00:=c0 0;have ZM:=c0 1;simp at c00 ZM;have d0:(w1.setCell ⟨w.heap.size,0,none⟩ (iv a)).cell? ⟨w.heap.size,0,none⟩=some (iv a):=World.cell?_setCell_same _ _ _ c00;have d1:((w1.setCell ⟨w.heap.size,0,none⟩ (iv a)).setCell ⟨w.heap.size,1,none⟩ (iv b)).cell? ⟨w.heap.size,1,none⟩=some (iv b):=World.cell?_setCell_same _ _ _ ((World.cell?_setCell_other _ _ _ _ ϕ).trans ZM);clear hb hc c0;go_wp2_with fail
  (try simp only[Exit.inBlock,Exit.then])
  refine bodyPost_ret (v:=rv (a,b)) (by simp[results,Tryz.results252,go_sem,d0,d1]) rfl ?_;exact zbx
 ·exact zbC
theorem vC (a:Int) (wb:Nat) (s:iC) (V:SV) (w:World) (υ:w.heap[wb]? =some (.cells (bP s V) 228 (0,0))) (hl:s.heap.last=4):Ϝ 248 #[.pointer (some ⟨wb,0,none⟩),iv a] w (Ow 7 (decide (4<a)) w):=by
 obtain⟨k0,g0,j0⟩:=ae υ;clear υ;go_enter Tryz.func248,Tryz.ntmps248;go_wp2_with fail
 refine(gX _ _ _).mono ?_;rintro e w1 ⟨hb,⟨hc,rfl⟩|⟨hc,rfl⟩⟩
 ·(try go_wp2_with fail)
  go_end0
  exact⟨hb,.inl ⟨by simp at hc⊢;omega,rfl⟩⟩
 ·exact⟨rfl,hb,.inr ⟨by simp at hc⊢;omega,rfl⟩⟩
theorem Xt (N:Nat) (w:World) (wb:Nat) (s:iC) (V:SV) (es:List KE) (ns:Value) (hO:iW N w wb s V es) (hG:eD s):Ϝ 153 #[.pointer (some ⟨wb,0,none⟩),ns] w (oZ N wb (gZ s .row []) w):=by
 have HO:=aa hO;have hr:=hG.rows;obtain⟨c0,f0,l0⟩:=ae hO.blk;clear hO hG;go_enter Tryz.func153,Tryz.ntmps153;go_wp2_with fail
 refine(om _ _ _).mono ?_;rintro e w1 ⟨hb,⟨hc,rfl⟩|⟨hc,rfl⟩⟩
 ·obtain⟨c1,f1,l1⟩:=ae ((hb.block _ l0).trans HO.o.blk);have HB:=aa hb;clear hb c0 f0;have tX: ¬5<=s.led.field.rows:=by simpa using hc
  have hlt':s.led.field.rows<5:=ϑ;clear hc;go_wp2_with fail
  go_end0
  have xE:=HO.o.below HB.o;simp only[gZ];rw[aj ϑ];refine⟨(HB.o.mono (dS HO.o)).setCell HO.o.rows.base _,.inl ⟨rfl,rfl,V,es,?_⟩⟩;exact xE.store fq (aG xE.blk _) rfl rfl
 ·have hge:5<=s.led.field.rows:=by simpa using hc
  simp only[gZ];rw[aB hge];exact⟨rfl,hb.mono (dS HO.o),.inr ⟨by simp,rfl⟩⟩
theorem TW (N:Nat) (w:World) (wb:Nat) (s:iC) (V:SV) (es:List KE) (ns:Value) (x:Int) (hO:iW N w wb s V es) (hn:pU N w ns [x]):Ϝ 158 #[.pointer (some ⟨wb,0,none⟩),ns] w (oZ N wb (gZ s .rate [x]) w):=by
 obtain⟨vt,vn,vw,vu,vr,vh,vk,vs⟩:=V;have HO:=aa hO;have fD:=dS hO;obtain⟨b,c,rfl,hbN,hcs⟩:=hn;have lb:b<w.heap.size:=ϑ;have lw:=hO.rows.lt;have sS:=hO.rows.base;have HW:Hid (∀W,Below N w W->b<W.heap.size/\ ∀(j:Nat) (h:j<[x].length),W.cell? ⟨b,j,none⟩=some (iv [x][j])):=aa (fun W hB=>⟨by have:=hB.size;omega,fun j h=>(gW (hB.block b hbN)).trans (hcs j h)⟩);obtain⟨c0,f0,l0⟩:=ae hO.blk;have mJ:=hcs 0 ϕ;simp only[ak] at mJ;have ψ:Hid (Ϙ w w):=aa (aC _ _);clear hO hcs;go_enter Tryz.func158,Tryz.ntmps158;go_wp2_with fail
 refine zg 8 [] none [] ?_;simp only[zt];repeat ((first|refine zd ?_|refine zk ?_);simp only[zp])
 intro W1 hE hF;have Qi:=aa (aV ψ.o hE.below);clear hE hF c0 f0 mJ;obtain⟨c1,f1,l1⟩:=ae ((Qi.o.block _ lw).trans HO.o.blk);obtain⟨tH,XH⟩:=HW.o W1 (Qi.o.mono fD);have Ξ:=XH 0 ϕ;simp only[ak] at Ξ;clear XH;go_wp2_with fail
 refine(dK 2 [x==0,decide (50<x)] W1 ϕ _ (by simp[dw]) _ _ rfl).mono ?_;rintro e W2 ⟨hb,⟨hc,rfl⟩|⟨hc,rfl⟩⟩;rotate_left
 ·simp at hc;exact zag
 simp at hc;have Ra:=aa (aV Qi.o hb);have iL:=aa hc;clear hb hc c1 f1 tH Ξ;obtain⟨c2,f2,l2⟩:=ae ((Ra.o.block _ lw).trans HO.o.blk);obtain⟨uI,XK⟩:=HW.o W2 (Ra.o.mono fD);have Χ:=XK 0 ϕ;simp only[ak] at Χ;clear XK;go_wp2_with fail
 go_end0
 have q0:=iL.o;simp only[gZ,bI,bJ,df];(repeat (first|rw[aB ϑ]|rw[aj ϑ]))
 have xE:=HO.o.below Ra.o;exact⟨((Ra.o.mono fD).setCell sS _),.inl ⟨rfl,rfl,_,es,xE.store (fq) (aG (xE.blk) _) rfl rfl⟩⟩
theorem YN (N:Nat) (w:World) (wb:Nat) (s:iC) (V:SV) (es:List KE) (ns:Value) (x y:Int) (hO:iW N w wb s V es) (hn:pU N w ns [x,y]):Ϝ 159 #[.pointer (some ⟨wb,0,none⟩),ns] w (oZ N wb (gZ s .box [x,y]) w):=by
 obtain⟨vt,vn,vw,vu,vr,vh,vk,vs⟩:=V;have HO:=aa hO;have fD:=dS hO;obtain⟨b,c,rfl,hbN,hcs⟩:=hn;have lb:b<w.heap.size:=ϑ;have lw:=hO.rows.lt;have sS:=hO.rows.base;have HW:Hid (∀W,Below N w W->b<W.heap.size/\ ∀(j:Nat) (h:j<[x,y].length),W.cell? ⟨b,j,none⟩=some (iv [x,y][j])):=aa (fun W hB=>⟨by have:=hB.size;omega,fun j h=>(gW (hB.block b hbN)).trans (hcs j h)⟩);obtain⟨c0,f0,l0⟩:=ae hO.blk;have mJ:=hcs 0 ϕ;simp only[ak] at mJ;have sw:=hcs 1 ϕ;simp only[ak] at sw;have ψ:Hid (Ϙ w w):=aa (aC _ _);clear hO hcs;go_enter Tryz.func159,Tryz.ntmps159;go_wp2_with fail
 refine RX.fo (fun ps W'=> ¬(x<=y/\y<=2000)/\ps=ji 2/\Below N w W') 8 [] none [(7,⟨fun _ v=>v=rv (x,y),fun _ _ _=>(x<=y/\y<=2000)⟩)] (by rintro ps a1 Wx hdf ⟨h1,rfl,h3⟩;refine⟨hdf,sV (c:=2) h3 ?_ ϖ⟩;simp only[gZ,bI,bJ,df];(repeat (first|rw[aB ϑ]|rw[aj ϑ]))) ϰ ϰ ?_
 simp only[zt];repeat (refine RX.zd ?_;simp only[zp])
 refine RX.bn _ ϱ ϱ ⟨_,rfl⟩ (fun Wq Ι hF2=>?_) (fun v Wa Wb ho hE=>ho) (fun v hv=>?_)
 ·exact zcH
 obtain rfl:v=rv (x,y):=hv;simp only[zp];intro W1 hE hF;have hc:x<=y/\y<=2000:=hF _ (bu _);have Qi:=aa (aV ψ.o (show Ext [] w W1 from hE).below);have iL:=aa hc;exact zaw
theorem Ux (N:Nat) (w:World) (wb:Nat) (s:iC) (V:SV) (es:List KE) (ns:Value) (x y:Int) (hO:iW N w wb s V es) (hn:pU N w ns [x,y]):Ϝ 154 #[.pointer (some ⟨wb,0,none⟩),ns] w (oZ N wb (gZ s .left [x,y]) w):=by
 obtain⟨vt,vn,vw,vu,vr,vh,vk,vs⟩:=V;have HO:=aa hO;have fD:=dS hO;obtain⟨b,c,rfl,hbN,hcs⟩:=hn;have lb:b<w.heap.size:=ϑ;have lw:=hO.rows.lt;have sS:=hO.rows.base;have HW:Hid (∀W,Below N w W->b<W.heap.size/\ ∀(j:Nat) (h:j<[x,y].length),W.cell? ⟨b,j,none⟩=some (iv [x,y][j])):=aa (fun W hB=>⟨by have:=hB.size;omega,fun j h=>(gW (hB.block b hbN)).trans (hcs j h)⟩);obtain⟨c0,f0,l0⟩:=ae hO.blk;have mJ:=hcs 0 ϕ;simp only[ak] at mJ;have sw:=hcs 1 ϕ;simp only[ak] at sw;have ψ:Hid (Ϙ w w):=aa (aC _ _);clear hO hcs;go_enter Tryz.func154,Tryz.ntmps154;go_wp2_with fail
 refine RX.fo (fun ps W'=> ¬(x<=y/\y<=s.led.field.rows)/\ps=ji 2/\Below N w W') 9 [] none [(8,⟨fun _ v=>v=rv (x,y),fun _ _ _=>(x<=y/\y<=s.led.field.rows)⟩)] (by rintro ps a1 Wx hdf ⟨h1,rfl,h3⟩;refine⟨hdf,sV (c:=2) h3 ?_ ϖ⟩;simp only[gZ,bI,bJ,df];(repeat (first|rw[aB ϑ]|rw[aj ϑ]))) ϰ ϰ ?_
 simp only[zt];repeat (refine RX.zd ?_;simp only[zp])
 refine RX.bn _ ϱ ϱ ⟨_,rfl⟩ (fun Wq Ι hF2=>?_) (fun v Wa Wb ho hE=>ho) (fun v hv=>?_)
 ·have G8:Ext [] w Wq:=Ι;refine RX.bX 242 #[.pointer (some ⟨wb,0,none⟩),iv x,iv y] (by go_simp;try rfl) ?_;refine(rz x y wb s _ Wq ((G8.block _ lw ϕ).trans HO.o.blk)).mono ?_;exact zas
 obtain rfl:v=rv (x,y):=hv;simp only[zp];intro W1 hE hF;have hc:x<=y/\y<=s.led.field.rows:=hF _ (bu _);have Qi:=aa (aV ψ.o (show Ext [] w W1 from hE).below);have iL:=aa hc;exact zaw
theorem Qj (N:Nat) (w:World) (wb:Nat) (s:iC) (V:SV) (es:List KE) (ns:Value) (x y:Int) (hO:iW N w wb s V es) (hn:pU N w ns [x,y]) (hx:0<=x/\x<=9999):Ϝ 162 #[.pointer (some ⟨wb,0,none⟩),ns] w (oZ N wb (gZ s .start [x,y]) w):=by
 obtain⟨vt,vn,vw,vu,vr,vh,vk,vs⟩:=V;have HO:=aa hO;have fD:=dS hO;obtain⟨b,c,rfl,hbN,hcs⟩:=hn;have lb:b<w.heap.size:=ϑ;have lw:=hO.rows.lt;have sS:=hO.rows.base;have HW:Hid (∀W,Below N w W->b<W.heap.size/\ ∀(j:Nat) (h:j<[x,y].length),W.cell? ⟨b,j,none⟩=some (iv [x,y][j])):=aa (fun W hB=>⟨by have:=hB.size;omega,fun j h=>(gW (hB.block b hbN)).trans (hcs j h)⟩);obtain⟨c0,f0,l0⟩:=ae hO.blk;have mJ:=hcs 0 ϕ;simp only[ak] at mJ;have sw:=hcs 1 ϕ;simp only[ak] at sw;have ψ:Hid (Ϙ w w):=aa (aC _ _);clear hO hcs;go_enter Tryz.func162,Tryz.ntmps162;go_wp2_with fail
 refine zg 6 [] none [] ?_;simp only[zt];repeat ((first|refine zd ?_|refine zk ?_);simp only[zp])
 intro W1 hE hF;have Qi:=aa (aV ψ.o hE.below);clear hE hF c0 f0 mJ sw;obtain⟨c1,f1,l1⟩:=ae ((Qi.o.block _ lw).trans HO.o.blk);obtain⟨tH,XH⟩:=HW.o W1 (Qi.o.mono fD);have Ξ:=XH 0 ϕ;simp only[ak] at Ξ;have n11:=XH 1 ϕ;simp only[ak] at n11;clear XH;go_wp2_with fail
 refine(xu _ _ _ _ _ ϑ).mono ?_;rintro e W2 ⟨hb,⟨hc,rfl⟩|⟨hc,rfl⟩⟩;rotate_left
 ·simp at hc;exact zag
 simp at hc;have Ra:=aa (aV Qi.o hb);have iL:=aa hc;clear hb hc c1 f1 tH Ξ n11;obtain⟨c2,f2,l2⟩:=ae ((Ra.o.block _ lw).trans HO.o.blk);obtain⟨uI,XK⟩:=HW.o W2 (Ra.o.mono fD);have Χ:=XK 0 ϕ;simp only[ak] at Χ;have n21:=XK 1 ϕ;simp only[ak] at n21;clear XK;go_wp2_with fail
 refine zg 8 [] none [] ?_;simp only[zt];repeat ((first|refine zd ?_|refine zk ?_);simp only[zp])
 intro W3 hE hF;have δ:=aa (aV Ra.o hE.below);clear hE hF c2 f2 uI Χ n21;obtain⟨c3,f3,l3⟩:=ae ((δ.o.block _ lw).trans HO.o.blk);obtain⟨F5,gQ⟩:=HW.o W3 (δ.o.mono fD);have n30:=gQ 0 ϕ;simp only[ak] at n30;have n31:=gQ 1 ϕ;simp only[ak] at n31;clear gQ;go_wp2_with fail
 go_end0
 have q0:=iL.o;simp only[gZ,bI,bJ,df];(repeat (first|rw[aB ϑ]|rw[aj ϑ]))
 have xE:=HO.o.below δ.o;exact⟨(((δ.o.mono fD).setCell sS _).setCell sS _),.inl ⟨rfl,rfl,_,es,xE.store ((fq).trans fq) (aG (aG (xE.blk) _) _) rfl rfl⟩⟩
theorem iW.put {N:Nat} {w W:World} {wb:Nat} {s s':iC} {V V':SV} {es Ο:List KE} (h:iW N w wb s V es) {i:Nat} {r:Row} (hr:(gF s V es)[i]? =some r) (r':Row) {Ms:List Nat} (hE:Ext Ms w W) (hM: ∀m∈Ms,r.v.ownBlock=some m)
 (ho:W.ownsRow N r'.t r'.size r'.v r'.n r'.xs) (hb:r'.v.ownBlock=r.v.ownBlock∨ ∃k,r'.v.ownBlock=some k/\w.heap.size<=k) {off:Nat} {u:Value} (υ:(W.setCell ⟨wb,off,none⟩ u).heap[wb]? =some (.cells (bP s' V') 228 (0,0)))
 (hrows:gF s' V' Ο=(gF s V es).set i r') (hes:Ο.map (·.2)=s'.cz.aR):iW N (W.setCell ⟨wb,off,none⟩ u) wb s' V' Ο:=by
 refine⟨υ,?_,hes⟩;rw[hrows];have h1:=h.rows.put hr r' hE (fun m hm=> .inr (.inr (hM m hm))) ho (hb.imp id .inr);exact h1.keep fq (fun m hm=> .inl (by simpa using hm))
theorem aO {w:World} {base:Nat} {e:TypeId} {size:Nat} {v:Value} {n:Nat} {xs:List Value} (h:w.ownsRow base e size v n xs): ∃o c,v= .slice o n c:=by
 obtain⟨h1,⟨rfl,rfl⟩|⟨g,c,cs,rfl,h3⟩⟩:=h
 ·exact⟨none,0,rfl⟩
 ·exact⟨_,_,rfl⟩
theorem BR (x y z:Int): ∀u∈[iv x,iv y,iv z],u.oneCell'=true:=by simp[Value.oneCell']
theorem JS (x y z p q:Int): ∀u∈[iv x,iv y,iv z,iv p,iv q],u.oneCell'=true:=by simp[Value.oneCell']
theorem Xx (x y z:Int): ∀u∈[Value.bool true,iv x,iv y,iv z],u.oneCell'=true:=by simp[Value.oneCell']
theorem Ug (x y:Int): ∀u∈[iv x,iv y],u.oneCell'=true:=by simp[Value.oneCell']
theorem one_one (x:Int): ∀u∈[iv x],u.oneCell'=true:=by simp[Value.oneCell']
theorem TI:gJ Tryz.prog 43 186 (.agg #[iv 0,iv 0,iv 0,iv 0,iv 0]) 5 40:=⟨Tryz.underlying43,by kernel_rfl,rfl,by omega⟩
theorem Xn:gJ Tryz.prog 47 188 (.agg #[iv 0,iv 0,iv 0]) 3 24:=⟨Tryz.underlying47,by kernel_rfl,rfl,by omega⟩
theorem acN:gJ Tryz.prog 56 129 (rv (0,0)) 2 16:=⟨Tryz.underlying56,by kernel_rfl,rfl,by omega⟩
theorem acP:gJ Tryz.prog 57 52 (.slice none 0 0) 1 24:=⟨Tryz.underlying57,by kernel_rfl,rfl,by omega⟩
theorem Xl:gJ Tryz.prog 58 192 (.agg #[.bool false,iv 0,iv 0,iv 0]) 4 32:=⟨Tryz.underlying58,by kernel_rfl,rfl,by omega⟩
theorem Xm:gJ Tryz.prog 53 190 (.agg #[iv 0,iv 0,iv 0]) 3 24:=⟨Tryz.underlying53,by kernel_rfl,rfl,by omega⟩
theorem UF (N:Nat) (w:World) (wb:Nat) (s:iC) (V:SV) (es:List KE) (ns:Value) (x y z:Int) (hO:iW N w wb s V es) (hn:pU N w ns [x,y,z]) (hG:eD s):Ϝ 166 #[.pointer (some ⟨wb,0,none⟩),ns] w (oZ N wb (gZ s .yw [x,y,z]) w):=by
 obtain⟨vt,vn,vw,vu,vr,vh,vk,vs⟩:=V;obtain⟨o,cc,rfl⟩: ∃o c,vr= .slice o s.heap.readings.length c:=aO (n:=s.heap.readings.length) (hO.rows.own 4 _ rfl);have HO:=aa hO;have fD:=dS hO;obtain⟨b,c,rfl,hbN,hcs⟩:=hn;have lb:b<w.heap.size:=ϑ;have lw:=hO.rows.lt;have sS:=hO.rows.base;have HW:Hid (∀W,Below N w W->b<W.heap.size/\ ∀(j:Nat) (h:j<[x,y,z].length),W.cell? ⟨b,j,none⟩=some (iv [x,y,z][j])):=aa (fun W hB=>⟨by have:=hB.size;omega,fun j h=>(gW (hB.block b hbN)).trans (hcs j h)⟩);obtain⟨c0,f0,l0⟩:=ae hO.blk;have mJ:=hcs 0 ϕ;simp only[ak] at mJ;have sw:=hcs 1 ϕ;simp only[ak] at sw;have Ai:=hcs 2 ϕ;simp only[ak] at Ai;have Qi:Hid (Ϙ w w):=aa (aC _ _);have hl4:=hG.heap.1;have Ii:=hG.reads;clear hO hcs hG;go_enter Tryz.func166,Tryz.ntmps166;go_wp2_with fail
 refine(vC x wb s _ w ((Qi.o.block _ lw).trans HO.o.blk) hl4).mono ?_;rintro e W1 ⟨hb,⟨hc,rfl⟩|⟨hc,rfl⟩⟩;rotate_left
 ·simp at hc;exact zag
 simp at hc;have iL:=aa (aV Qi.o hb);have pg:=aa hc;clear hb hc c0 f0 mJ sw Ai;obtain⟨c1,f1,l1⟩:=ae ((iL.o.block _ lw).trans HO.o.blk);obtain⟨tH,XH⟩:=HW.o W1 (iL.o.mono fD);have Ξ:=XH 0 ϕ;simp only[ak] at Ξ;have n11:=XH 1 ϕ;simp only[ak] at n11;have n12:=XH 2 ϕ;simp only[ak] at n12;clear XH;go_wp2_with fail
 refine zg 8 [] none [] ?_;simp only[zt];repeat ((first|refine zd ?_|refine zk ?_);simp only[zp])
 intro W2 hE hF;have δ:=aa (aV iL.o hE.below);clear hE hF c1 f1 tH Ξ n11 n12;obtain⟨c2,f2,l2⟩:=ae ((δ.o.block _ lw).trans HO.o.blk);obtain⟨uI,XK⟩:=HW.o W2 (δ.o.mono fD);have Χ:=XK 0 ϕ;simp only[ak] at Χ;have n21:=XK 1 ϕ;simp only[ak] at n21;have n22:=XK 2 ϕ;simp only[ak] at n22;clear XK;go_wp2_with fail
 refine(dK 2 [decide (1000<y),decide (50<z)] W2 ϕ _ (by simp[dw]) _ _ rfl).mono ?_;rintro e W3 ⟨hb,⟨hc,rfl⟩|⟨hc,rfl⟩⟩;rotate_left
 ·simp at hc;exact zai
 simp at hc;have mO:=aa (aV δ.o hb);have uu:=aa hc;clear hb hc c2 f2 uI Χ n21 n22;obtain⟨c3,f3,l3⟩:=ae ((mO.o.block _ lw).trans HO.o.blk);obtain⟨F5,gQ⟩:=HW.o W3 (mO.o.mono fD);have n30:=gQ 0 ϕ;simp only[ak] at n30;have n31:=gQ 1 ϕ;simp only[ak] at n31;have n32:=gQ 2 ϕ;simp only[ak] at n32;clear gQ;go_wp2_with fail
 refine(om _ _ _).mono ?_;rintro e W4 ⟨hb,⟨hc,rfl⟩|⟨hc,rfl⟩⟩;rotate_left
 ·simp at hc;exact zal
 simp at hc;have fV:=aa (aV mO.o hb);have q0:=aa hc;clear hb hc c3 f3 F5 n30 n31 n32;obtain⟨c4,f4,l4⟩:=ae ((fV.o.block _ lw).trans HO.o.blk);obtain⟨LX,je⟩:=HW.o W4 (fV.o.mono fD);have n40:=je 0 ϕ;simp only[ak] at n40;have n41:=je 1 ϕ;simp only[ak] at n41;have n42:=je 2 ϕ;simp only[ak] at n42;clear je;go_wp2_with fail
 obtain⟨Ms,γ⟩: ∃Ms,Ms=(Value.slice o s.heap.readings.length cc).ownBlock.toList:=⟨_,rfl⟩;have hO4:=HO.o.below fV.o;have Ν:wb∉Ms:=fun h=>hO4.rows.off 4 _ rfl (by rw[γ] at h;exact bY.1 h);have hm2:b∉Ms:=fun h=>by have:=((hO4.rows.own 4 _ rfl).lt b (by rw[γ] at h;exact bY.1 h)).1;omega
 have pY: ∀m∈Ms,m<W4.heap.size:=fun m h=>((hO4.rows.own 4 _ rfl).lt m (by rw[γ] at h;exact bY.1 h)).2;have HM:=aa γ;have iD:=aa hO4;clear γ hO4;refine zg 19 Ms (some 18) [(17,Spec.slice W4.heap.size #[iv x,iv y,iv z] 190 1),(18,⟨fun _ v=> ∃o2 c2,v= .slice o2 (s.heap.readings.length+1) c2,fun _ v Wx=>Wx.ownsRow N 190 3 v (s.heap.readings.length+1) (aU s.heap.readings++[iv x,iv y,iv z])/\(v.ownBlock=(Value.slice o s.heap.readings.length cc).ownBlock∨ ∃q,v.ownBlock=some q/\W4.heap.size<=q)⟩)] ?_;simp only[zt];repeat ((first|refine zd ?_|refine zk ?_);simp only[zp])
 refine dI W4.heap.size _ _ 1 ϱ (ah _) ϱ pY ϕ (fun W hW=>by go_simp;try rfl) (fun b6=>?_);simp only[zp];repeat ((first|refine zd ?_|refine zk ?_);simp only[zp])
 refine bn _ ϱ ϱ (by exact⟨.slice none (s.heap.readings.length+1) 0,none,0,rfl⟩) (fun W6 hE hF=>?_) (fun v Wa Wb ho hE=>?_) (fun v hv=>?_)
 ·have G8:Ext [] W4 W6:=hE;obtain⟨b',hb',hge,μ⟩:=hF _ (bu _) ϰ;cases hb';have YM:W6.ownsRow N 190 3 (.slice o s.heap.readings.length cc) s.heap.readings.length (aU s.heap.readings):=az (Ms:=[]) (iD.o.rows.own 4 _ rfl) G8 ϕ;have ι:aH 3 W6 (.slice (some ⟨b6,0,none⟩) 1 1) 1 ([iv x,iv y,iv z]):=aH.bS 3 1 μ rfl ϖ;refine Does.mono (cZ Xm ϱ ϱ YM ϱ ι (BR x y z) ϑ ϑ (by have:=G8.size;have:=fV.o.size;omega)) ?_;exact zat
 ·exact zaP
 obtain⟨o7,c7,rfl⟩:=hv;simp only[zp];intro W5 hE hF;obtain⟨nD,xB⟩:=hF _ (bu _);have eQ:Ext Ms W4 W5:=hE;have ο:=(eQ.block wb iD.o.rows.lt Ν).trans iD.o.blk;obtain⟨c5,f5,l5⟩:=ae ο;have gP:=aa (af eQ (af nD (af xB ο)));have Az:Below N w W5:=(fV.o.mono fD).trans ⟨eQ.os,eQ.tape,eQ.output,eQ.size,fun k hk=>eQ.block k (by have:=fV.o.size;omega) (fun h=>by have:=((iD.o.rows.own 4 _ rfl).lt k (by rw[HM.o] at h;exact bY.1 h)).1;omega)⟩;have nH:=aa Az;clear hE hF eQ nD xB ο Az Ν hm2 pY c4 f4 LX n40 n41 n42;go_wp2_with fail
 go_end0
 have q1:=pg.o;have q2:=uu.o;have ψ:=q0.o;simp only[gZ,bI,bJ,df];(repeat (first|rw[aB ϑ]|rw[aj ϑ]))
 refine⟨nH.o.setCell sS _,.inl ⟨rfl,rfl,⟨vt,vn,vw,vu,.slice o7 (s.heap.readings.length+1) c7,vh,vk,vs⟩,es,iD.o.put (i:=4) rfl ⟨190,3,.slice o7 (s.heap.readings.length+1) c7,s.heap.readings.length+1,aU s.heap.readings++[iv x,iv y,iv z]⟩ gP.o.1 (fun m hm=>by rw[HM.o] at hm;exact bY.1 hm) gP.o.2.1 gP.o.2.2.1 (aG gP.o.2.2.2 _) (by simp[gF,gK,aU]) (iD.o.es)⟩⟩
end Go.Proofs.Z.Bk
end
section
namespace Go.Proofs.Z
open Go.RowKit Go.RG Go.SL Go.Shelf ig Go.TB
theorem PI {l:aN} (hp: ∃d∈eX l,iH l [] d=true) (p:Int->dF->dF):(yP p l (eX l)).length=l.field.aJ.toNat:=by
 rcases Gu p l (eX l) (eX l).length (ah _) with h|h
 ·obtain⟨d,hd,hc⟩:=hp;by_cases h0:0<l.field.aJ.toNat
  ·rcases Dj p l (eX l) h0 (eX l).length (ah _) with⟨_,h2⟩|⟨h1,_⟩
   ·rw[List.take_length] at h2;rw[h2 d hd] at hc;cases hc
   ·exact h1
  ·unfold yP;rw[h];simp;omega
 ·exact h
open Go.Deep
section
variable {H : Type} {enc : TypeId × Value → H} {P : Program} {W : World} {base b0 : Nat} {spare : Nat → Bool} {held : Bool} {r : Reach}
theorem QL {α:Type} [Inhabited α] (f:α->List Value) (k:Nat) (hk0:0<k) (hf: ∀x,(f x).length=k) {t e:TypeId} (ht:P.underlying t=some (.slice e)) (hk:P.cellsOf e=k)
 (hel: ∀fuel cs x,DataW.trod enc P W base spare held fuel e cs=some x-> ∃y:α,cs=f y)
 {v:Value} (hok:Cell.ok P W r b0 t v) {fuel:Nat} {x:DataW H×List MemPlace} (h:DataW.trod enc P W base spare held fuel t [v]=some x):
 ∃l:List α,aH k W v l.length (l.flatMap f):=by
 rcases open_slice ht h with⟨hc,_⟩|⟨a,len,cap,m,n,D,Pl,hc,hb,hl,hm,hmm,_,hx⟩
 ·cases hc;exact⟨[],aH.nil k W⟩
 ·cases hc;have hsp:a.spot=none:=by
   simp only[Cell.ok,ht,World.has] at hok;exact hok.2.2.2.1
  have hlm:len<=m:=by rw[hmm];split <;>omega
  have each: ∀i,i<m-> ∃y:α, ∀j u,(f y)[j]? =some u->W.cell? ⟨a.block,a.off+(i*k+j),none⟩=some u:=by
   intro i hi;obtain⟨cs',h1,h2⟩:=hx i hi;rw[hk] at h1;obtain⟨_,Ib,MR⟩:=World.cells?_some h1;obtain⟨y,rfl⟩:=hel _ _ _ h2;refine⟨y,fun j u hj=>?_⟩;have hjk:j<k:=by rw[<-hf y];exact(gY.1 hj).1
   have h3:=MR j hjk;rw[add_add] at h3;obtain⟨b,off,sp⟩:=a;simp only at hsp;subst hsp;rw[Addr.add_lit] at h3;rw[h3,hj]
  obtain⟨Y,hY⟩:=choose_lt each;have Ib:((List.range len).map Y).length=len:=ϕ;refine⟨(List.range len).map Y,?_,some a,cap,by rw[Ib],by rw[Ib];exact hl,hm,(fun h=>by cases h),fun a' ha=>?_⟩
  ·have: ∀l:List α,(l.flatMap f).length=l.length*k:=zb1;exact this _
  ·cases ha;refine⟨hsp,fun j u hj=>?_⟩;have hjl:j<(((List.range len).map Y).flatMap f).length:=(gY.1 hj).1;have adQ:(((List.range len).map Y).flatMap f).length=len*k:=by
    have: ∀l:List α,(l.flatMap f).length=l.length*k:=zb1;rw[this,Ib]
   rw[adQ] at hjl;have hi:j/k<len:=(Nat.div_lt_iff_lt_mul hk0).2 hjl;have hr:j%k<k:=Nat.mod_lt _ hk0;have e:j/k*k+j%k=j:=by rw[Nat.mul_comm];exact Nat.div_add_mod j k
   have:=iF f k hf ((List.range len).map Y) (j/k) (j%k) (by rw[Ib];exact hi) hr;rw[e,hj] at this;simp only[List.getElem_map,List.getElem_range] at this;have h4:=hY (j/k) ϑ (j%k) u this.symm;rw[e] at h4;exact h4
end
section
variable {H : Type} {enc : TypeId × Value → H} {W : World} {base b0 : Nat} {spare : Nat → Bool} {held : Bool} {r : Reach}
end
theorem Ee {H:Type} {enc:TypeId×Value->H} {P:Program} (hl:laidOutB P=true) {ts:List TypeId} (hr:(ts.all fun t=>P.readableRec t&&decide (t<P.types.size))=true) {W W':World} {vs:List Value} {ds:List (DataW H)} {ps:List MemPlace}
 (h:DataW.TrodAll enc P W 0 (fun _=>true) true ts vs ds ps) (hb:Ϙ W W') (tX: ∀x∈ps,x.block<W.heap.size):
 DataW.TrodAll enc P W' 0 (fun b=>decide (b<W.heap.size)) true ts vs ds ps:=by
 induction ts generalizing vs ds ps with
 |nil=>
  cases vs <;>cases ds <;>simp_all [DataW.TrodAll]
 |cons t ts ih=>
  cases vs with
  |nil=>cases ds <;>simp_all [DataW.TrodAll]
  |cons v vs=>
   cases ds with
   |nil=>simp_all [DataW.TrodAll]
   |cons d ds=>
    obtain⟨p,q,h1,h2,rfl⟩:=h;simp only[List.all_cons,dL,dR] at hr;exact⟨p,q,Below.trod hl hr.1.1 hr.1.2 h1 hb (fun x hx=>tX x (by simp[hx])),ih (by simpa using hr.2) h2 (fun x hx=>tX x (by simp[hx])),rfl⟩
end Go.Proofs.Z
end

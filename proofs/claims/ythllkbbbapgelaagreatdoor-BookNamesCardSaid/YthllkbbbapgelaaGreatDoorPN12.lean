/-
  Texts of this claim, packed by a program: YA YB YC YE YF DA DB DC DD DE DF DG YD YG YI.
-/
import Derived.WalkKit
import Derived.WalkLawsBesides
import Derived.WalkSpells
import Derived.Outline
import Derived.Handy
import Derived.KernelRfl
import Derived.Lib.Hide
import Derived.Lib.AtoiTie
import Derived.Lib.ItoaNum
import Derived.StringKeys
import Derived.Lib.SlicesS
import Derived.BigRegion
import Derived.Test.YthllkbbbapgelaaGreatDoorPN8
import Derived.Test.YthllkbbbapgelaaGreatDoorPN11
set_option maxHeartbeats 8000000
set_option maxRecDepth 100000
set_option linter.all false
theorem _root_.zcN {P:Prop} (h:P:=by
 have Iq:Ext [] w Wq:=Ι;refine RX.bM 245 #[iv x,iv y] (by go_simp;try rfl) ?_;refine(tq x y Wq).mono ?_;exact zar):P:=h
theorem _root_.zcQ {P:Prop} (h:P:=by
 simp at hc;have q0:=iN.o;exact zah):P:=h
theorem _root_.zcP {P:Prop} (h:P:=by
 simp at hc;have q0:=iN.o;exact zaf):P:=h
theorem _root_.zaI {P:Prop} (h:P:=by
 have HE:=aa he;clear he;go_wp2;go_round
 case rel=>exact⟨k+1,by omega,by go_num,fun j hj hjk=>(by by_cases e:j=k;(subst e;exact HE.o);exact HN.o j hj ϑ)⟩
 case measure=>simp[intOf];omega):P:=h
theorem _root_.zaX {P:Prop} (h:P:=by
 have HC:=aa hc;clear hc;go_wp2_with fail
 go_returns;exact⟨by rw[HC.o];simp,aF _ _⟩):P:=h
theorem _root_.zaM {P:Prop} (h:P:=by
 rintro e w1 ⟨hb,⟨hc,rfl⟩|⟨hc,rfl⟩⟩
 ·(try go_wp2_with fail)
  go_end0
  exact⟨hb,.inl ⟨by simpa using hc,rfl⟩⟩
 ·exact⟨rfl,hb,.inr ⟨by simpa using hc,rfl⟩⟩):P:=h
theorem _root_.zbB {P:Prop} (h:P:=by
 exact⟨((aV (ai (aF _ _) _) HB.o).setCell (ah _) _).setCell (ah _) _,.inl ⟨by have:=HC.o;omega,rfl⟩⟩):P:=h
theorem _root_.zbG {P:Prop} (h:P:=by
 simp only[Bool.or_eq_true,dZ] at hc;exact⟨rfl,aV (ai (aF _ _) _) hb,.inr ⟨by omega,rfl⟩⟩):P:=h
theorem _root_.zaf {P:Prop} (h:P:=by
 simp only[ib,bQ,bR,dw];(repeat (first|rw[aG ϑ]|rw[ak ϑ]))
 exact⟨rfl,(aV R9.o hb).mono fG,.inr ⟨by simp,rfl⟩⟩):P:=h
theorem _root_.zar {P:Prop} (h:P:=by
 rintro e w' ⟨hb,⟨hc,rfl⟩|⟨hc,rfl⟩⟩
 ·exact .inl ⟨_,rfl,rfl,hc,Ext.ax hb⟩
 ·exact .inr ⟨_,rfl,hc,rfl,(aV Α.o (aV Iq.below hb)).mono fG⟩):P:=h
theorem _root_.zaw {P:Prop} (h:P:=by
 clear hE hF hc c0 f0 mO sZ;obtain⟨c1,f1,l1⟩:=ae ((R9.o.block _ lw).trans HO.o.blk);obtain⟨uD,Y8⟩:=HW.o W1 (R9.o.mono fG);have Φ:=Y8 0 ϕ;simp only[au] at Φ;have n11:=Y8 1 ϕ;simp only[au] at n11;clear Y8;go_wp2_with fail
 go_end0
 have q0:=iN.o;simp only[ib,bQ,bR,dw];(repeat (first|rw[aG ϑ]|rw[ak ϑ]))
 have yu:=HO.o.below R9.o;exact⟨(((R9.o.mono fG).setCell uf _).setCell uf _),.inl ⟨rfl,rfl,_,es,yu.store ((fB).trans fB) (aA (aA (yu.blk) _) _) rfl rfl⟩⟩):P:=h
theorem _root_.zah {P:Prop} (h:P:=by
 have q1:=pK.o;simp only[ib,bQ,bR,dw];(repeat (first|rw[aG ϑ]|rw[ak ϑ]))
 exact⟨rfl,(aV ζ.o hb).mono fG,.inr ⟨by simp,rfl⟩⟩):P:=h
theorem _root_.zaj {P:Prop} (h:P:=by
 have q1:=pK.o;have q2:=wK.o;simp only[ib,bQ,bR,dw];(repeat (first|rw[aG ϑ]|rw[ak ϑ]))
 exact⟨rfl,(aV lM.o hb).mono fG,.inr ⟨by simp,rfl⟩⟩):P:=h
theorem _root_.zat {P:Prop} (h:P:=by
 rintro v' W7 ⟨ho,Y7,θ⟩;refine⟨aR ho,⟨ho,?_⟩,⟨Y7.os,Y7.tape,Y7.output,Y7.size,fun b hb hn=>Y7.block b hb (fun e=>hn (by rw[HM.o];exact dh.2 e.symm))⟩⟩;rcases θ with h1|h1
 ·exact .inl h1
 ·exact .inr ⟨_,h1,Iq.size⟩):P:=h
theorem _root_.zaa {P:Prop} (h:P:=by
 have nJ:=aa (aV lM.o hb);have HS6:=aa hb;have Fj:=aa hc;clear hb hc c5 f5 lb5 n50 n51 n52 n53 n54;obtain⟨c6,f6,l6⟩:=ae ((nJ.o.block _ lw).trans HO.o.blk);obtain⟨lb6,rD⟩:=HW.o W6 (nJ.o.mono fG);have n60:=rD 0 ϕ;simp only[au] at n60;have n61:=rD 1 ϕ;simp only[au] at n61;have n62:=rD 2 ϕ;simp only[au] at n62;have n63:=rD 3 ϕ;simp only[au] at n63;have n64:=rD 4 ϕ;simp only[au] at n64;clear rD;go_wp2_with fail
 refine RX.fw (fun ps W'=> ¬(p<=q/\q<=s.led.field.rows)/\ps=jm 2/\Below N w W') 19 [] none [(16,⟨fun _ v=>v=rv (p,q),fun _ _ _=>(p<=q/\q<=s.led.field.rows)⟩),(18,Spec.block W6.heap.size #[iv 0,iv 0,iv 0,iv 0,iv 0] 186)] (by rintro ps a1 Wx hdf ⟨h1,rfl,h3⟩;refine⟨hdf,um (c:=2) h3 ?_ ϖ⟩;have q0:=iN.o;have q1:=pK.o;have q2:=wK.o;have q3:=Fj.o;simp only[ib,bQ,bR,dw];(repeat (first|rw[aG ϑ]|rw[ak ϑ]))) ϰ ϰ ?_
 simp only[zt];repeat (refine RX.zd ?_;simp only[zp])
 refine RX.aY _ ϱ ϱ ⟨_,rfl⟩ (fun Wq Ι hF2=>?_) (fun v Wa Wb ho hE=>ho) (fun v hv=>?_)
 ·have Iq:Ext [] W6 Wq:=Ι;refine RX.bM 242 #[.pointer (some ⟨wb,0,none⟩),iv p,iv q] (by go_simp;try rfl) ?_;refine(rR p q wb s _ Wq ((Iq.block _ (eF lw nJ.o.size) ϕ).trans ((nJ.o.block _ lw).trans HO.o.blk))).mono ?_;rintro e w' ⟨hb,⟨hc,rfl⟩|⟨hc,rfl⟩⟩
  ·exact .inl ⟨_,rfl,rfl,hc,Ext.ax hb⟩
  ·exact .inr ⟨_,rfl,hc,rfl,(aV nJ.o (aV Iq.below hb)).mono fG⟩
 obtain rfl:v=rv (p,q):=hv;simp only[zp];repeat (refine RX.zd ?_;simp only[zp])
 refine RX.gQ W6.heap.size _ _ ϱ (ah _) ϱ ϕ ϕ (fun W hW=>by go_simp;try rfl) (fun b9=>?_);simp only[zp];intro Wb hE hF;obtain⟨b9',uF,hge,tL⟩:=hF _ (aW _);cases uF;have hc:p<=q/\q<=s.led.field.rows:=hF _ (jf _ (aW _));have HBb:=aa (aV nJ.o (show Ext [] W6 Wb from hE).below);have QN:=aa hc;have oU:=aa (af (eU nJ.o.size hge) tL);obtain⟨c9,f9,l9⟩:=ae tL;clear hE hF hc hge tL c6 f6 lb6 n60 n61 n62 n63 n64;go_upto_region 5 with(fail)
 refine bU fun W7 nP=>?_;have xM:=aa (show Ϙ w W7 from by rw[nP];exact(((((HBb.o).setCell oU.o.1 _).setCell oU.o.1 _).setCell oU.o.1 _).setCell oU.o.1 _).setCell oU.o.1 _)
 have Bb:=aa (show W7.heap[b9]? =some (.cells #[iv x,iv y,iv z,iv p,iv q] 186 (0,0)) from by rw[nP];exact aA (aA (aA (aA (aA (oU.o.2) _) _) _) _) _)
 have Vq:b9<W7.heap.size:=(aN.1 Bb.o).1;clear nP c9 f9 l9;obtain⟨c7,f7,l7⟩:=ae ((xM.o.block _ lw).trans HO.o.blk);obtain⟨lb7,rC⟩:=HW.o W7 (xM.o.mono fG);have n70:=rC 0 ϕ;simp only[au] at n70;have n71:=rC 1 ϕ;simp only[au] at n71;have n72:=rC 2 ϕ;simp only[au] at n72;have n73:=rC 3 ϕ;simp only[au] at n73;have n74:=rC 4 ϕ;simp only[au] at n74;clear rC;go_wp2_with fail
 refine(oH _ _ _).mono ?_;rintro e W8 ⟨hb,⟨hc,rfl⟩|⟨hc,rfl⟩⟩;rotate_left
 ·simp at hc;have q0:=iN.o;have q1:=pK.o;have q2:=wK.o;have q3:=Fj.o;have q4:=QN.o;simp only[ib,bQ,bR,dw];(repeat (first|rw[aG ϑ]|rw[ak ϑ]))
  exact⟨rfl,(aV xM.o hb).mono fG,.inr ⟨by simp,rfl⟩⟩
 simp at hc;have nG:=aa (aV xM.o hb);have HS8:=aa hb;have HQ5:=aa hc;clear hb hc c7 f7 lb7 n70 n71 n72 n73 n74;obtain⟨c8,f8,l8⟩:=ae ((nG.o.block _ lw).trans HO.o.blk);obtain⟨lb8,Az⟩:=HW.o W8 (nG.o.mono fG);have n80:=Az 0 ϕ;simp only[au] at n80;have n81:=Az 1 ϕ;simp only[au] at n81;have n82:=Az 2 ϕ;simp only[au] at n82;have n83:=Az 3 ϕ;simp only[au] at n83;have n84:=Az 4 ϕ;simp only[au] at n84;clear Az;go_wp2_with fail
 obtain⟨Ms,η⟩: ∃Ms,Ms=(Value.slice o s.led.field.aj.length cc).ownBlock.toList:=⟨_,rfl⟩;have Ee:=HO.o.below nG.o;have Υ:wb∉Ms:=fun h=>Ee.rows.off 0 _ rfl (by rw[η] at h;exact dh.1 h);have hm2:b∉Ms:=fun h=>by have:=((Ee.rows.own 0 _ rfl).lt b (by rw[η] at h;exact dh.1 h)).1;omega
 have qh: ∀m∈Ms,m<W8.heap.size:=fun m h=>((Ee.rows.own 0 _ rfl).lt m (by rw[η] at h;exact dh.1 h)).2;obtain⟨c9,f9,l9⟩:=ae ((HS8.o.block _ Vq).trans Bb.o);have hm9:b9∉Ms:=fun h=>by have:=((HO.o.rows.own 0 _ rfl).lt b9 (by rw[η] at h;exact dh.1 h)).2;have:=oU.o.1;omega
 have HM:=aa η;have iF:=aa Ee;clear η Ee;refine zg 8 Ms (some 7) [(6,Spec.slice W8.heap.size #[iv x,iv y,iv z,iv p,iv q] 186 1),(7,⟨fun _ v=> ∃o2 c2,v= .slice o2 (s.led.field.aj.length+1) c2,fun _ v Wx=>Wx.ownsRow N 186 5 v (s.led.field.aj.length+1) (bP s.led.field.aj++[iv x,iv y,iv z,iv p,iv q])/\(v.ownBlock=(Value.slice o s.led.field.aj.length cc).ownBlock∨ ∃q,v.ownBlock=some q/\W8.heap.size<=q)⟩)] ?_;simp only[zt];repeat ((first|refine zd ?_|refine zk ?_);simp only[zp])
 refine cB W8.heap.size _ _ 1 ϱ (ah _) ϱ qh ϕ (fun W hW=>by go_simp;try rfl) (fun b6=>?_);simp only[zp];repeat ((first|refine zd ?_|refine zk ?_);simp only[zp])
 refine aY _ ϱ ϱ (by exact⟨.slice none (s.led.field.aj.length+1) 0,none,0,rfl⟩) (fun W6 hE hF=>?_) (fun v Wa Wb ho hE=>?_) (fun v hv=>?_)
 ·have Iq:Ext [] W8 W6:=hE;obtain⟨b',hb',hge,ο⟩:=hF _ (aW _) ϰ;cases hb';have VC:W6.ownsRow N 186 5 (.slice o s.led.field.aj.length cc) s.led.field.aj.length (bP s.led.field.aj):=az (Ms:=[]) (iF.o.rows.own 0 _ rfl) Iq ϕ;have ξ:aH 5 W6 (.slice (some ⟨b6,0,none⟩) 1 1) 1 ([iv x,iv y,iv z,iv p,iv q]):=aH.bI 5 1 ο rfl ϖ;refine Does.mono (dA UF ϱ ϱ VC ϱ ξ (Ku x y z p q) ϑ ϑ (by have:=Iq.size;have:=nG.o.size;omega)) ?_;rintro v' W7 ⟨ho,Y7,θ⟩;refine⟨aR ho,⟨ho,?_⟩,⟨Y7.os,Y7.tape,Y7.output,Y7.size,fun b hb hn=>Y7.block b hb (fun e=>hn (by rw[HM.o];exact dh.2 e.symm))⟩⟩;rcases θ with h1|h1
  ·exact .inl h1
  ·exact .inr ⟨_,h1,Iq.size⟩
 ·exact⟨az (Ms:=[]) ho.1 hE ϕ,ho.2⟩
 obtain⟨o7,c7,rfl⟩:=hv;simp only[zp];intro W9 hE hF;obtain⟨nH,yn⟩:=hF _ (aW _);have eT:Ext Ms W8 W9:=hE;have χ:=(eT.block wb iF.o.rows.lt Υ).trans iF.o.blk;obtain⟨c9,f9,l9⟩:=ae χ;have gP:=aa (af eT (af nH (af yn χ)));have BF:Below N w W9:=(nG.o.mono fG).trans ⟨eT.os,eT.tape,eT.output,eT.size,fun k hk=>eT.block k (by have:=nG.o.size;omega) (fun h=>by have:=((iF.o.rows.own 0 _ rfl).lt k (by rw[HM.o] at h;exact dh.1 h)).1;omega)⟩;have nG:=aa BF;clear hE hF eT nH yn χ BF Υ hm2 qh c8 f8 lb8 n80 n81 n82 n83 n84;go_wp2_with fail
 go_end0
 have q0:=iN.o;have q1:=pK.o;have q2:=wK.o;have q3:=Fj.o;have q4:=QN.o;have q5:=HQ5.o;simp only[ib,bQ,bR,dw];(repeat (first|rw[aG ϑ]|rw[ak ϑ]))
 refine⟨nG.o.setCell uf _,.inl ⟨rfl,rfl,⟨.slice o7 (s.led.field.aj.length+1) c7,vn,vw,vu,vr,vh,vk,vs⟩,es,iF.o.put (i:=0) rfl ⟨186,5,.slice o7 (s.led.field.aj.length+1) c7,s.led.field.aj.length+1,bP s.led.field.aj++[iv x,iv y,iv z,iv p,iv q]⟩ gP.o.1 (fun m hm=>by rw[HM.o] at hm;exact dh.1 hm) gP.o.2.1 gP.o.2.2.1 (aA gP.o.2.2.2 _) (by simp[gB,lq,bP]) (iF.o.es)⟩⟩):P:=h
section
namespace Go.Proofs.Z.Bk
open gK Go.Proofs.Z.xC
abbrev ay:=List UInt8
def gD:ay->List ay
 |[]=>[[]]
 |c::l=>if c=32 then[]::gD l else(c::(gD l).headD [])::(gD l).tail
theorem wN: ∀l,gD l≠[]:=by
 intro l;cases l with
 |nil=>simp[gD]
 |cons c l=>unfold gD;split <;>simp
def jb (c:UInt8):Bool:=decide (48<=c.toNat)&&decide (c.toNat<=57)
def yJ (s:ay):Int:=s.foldl (fun n c=>10*n+((c.toNat:Int)-48)) 0
def Lf (s:ay):Bool:=decide (1<=s.length)&&decide (s.length<=4)&&(decide (s.headD 0≠48) ||decide (s.length=1))&&s.all jb
def ng (s:ay):Option Int:=if Lf s=true then some (yJ s) else none
theorem PR: ∀(s:ay) (n:Int),0<=n->s.all jb=true->n*10^s.length<=s.foldl (fun n c=>10*n+((c.toNat:Int)-48)) n/\s.foldl (fun n c=>10*n+((c.toNat:Int)-48)) n<(n+1)*10^s.length:=by
 intro s;induction s with
 |nil=>intro n h _;simp;omega
 |cons c s ih=>
  intro n h hs;rw[List.all_cons,dU] at hs;have hd:=hs.1;simp only[jb,dU,dZ] at hd;have hp:0<(10:Int)^s.length:=Int.pow_pos ϑ;have:=ih (10*n+((c.toNat:Int)-48)) ϑ hs.2;rw[List.foldl_cons,List.length_cons,Int.pow_succ];have e1:n*(10^s.length*10)=(10*n)*10^s.length:=by rw[Int.mul_comm (10^s.length) 10, <-Int.mul_assoc,Int.mul_comm n 10]
  have e2:(n+1)*(10^s.length*10)=(10*(n+1))*10^s.length:=by rw[Int.mul_comm (10^s.length) 10, <-Int.mul_assoc,Int.mul_comm (n+1) 10]
  rw[e1,e2];have h1:(10*n)*10^s.length<=(10*n+((c.toNat:Int)-48))*10^s.length:=Int.mul_le_mul_of_nonneg_right ϑ ϑ;have h2:(10*n+((c.toNat:Int)-48)+1)*10^s.length<=(10*(n+1))*10^s.length:=Int.mul_le_mul_of_nonneg_right ϑ ϑ;omega
theorem IJ {s:ay} {n:Int} (h:ng s=some n):0<=n/\n<=9999:=by
 unfold ng at h;split at h
 ·rename_i hf;obtain rfl:=iJ h;simp only[Lf,dU,dZ] at hf;have h1:=PR s 0 ϑ hf.2;have h2:(10:Int)^s.length<=10000:=by
   have h3:=hf.1.1.1;have h4:=hf.1.1.2;clear h1 hf;generalize s.length=k at*
   rcases(show k=1∨k=2∨k=3∨k=4 by omega) with rfl|rfl|rfl|rfl <;>decide
  unfold yJ;omega
 ·cases h
inductive jV where
 |row|left|tally|zZ|lu|rate|box|note|void|start|bJ|turn|nK|Ar|unread|heap|strong|nI|fill|Ac|sK
 deriving DecidableEq
def Jw:List jV:=[.row,.left,.tally,.zZ,.lu,.rate,.box,.note,.void,.start,.bJ,.turn,.nK,.Ar,.unread,.heap,.strong,.nI,.fill,.Ac,.sK]
def jV.word:jV->ay
 | .row=>[114,111,119]
 | .left=>[108,101,102,116]
 | .tally=>[116,97,108,108,121]
 | .zZ=>[119,97,115,104]
 | .lu=>[117,110,116,97,108,108,121]
 | .rate=>[114,97,116,101]
 | .box=>[98,111,120]
 | .note=>[110,111,116,101]
 | .void=>[118,111,105,100]
 | .start=>[115,116,97,114,116]
 | .bJ=>[119,101,116]
 | .turn=>[116,117,114,110]
 | .nK=>[117,110,116,117,114,110]
 | .Ar=>[105,114,111,110]
 | .unread=>[117,110,114,101,97,100]
 | .heap=>[104,101,97,112]
 | .strong=>[115,116,114,111,110,103]
 | .nI=>[99,97,115,107]
 | .fill=>[102,105,108,108]
 | .Ac=>[116,114,121]
 | .sK=>[117,110,116,114,121]
def jV.many:jV->Nat
 | .row=>0
 | .lu| .rate| .void| .turn| .nK| .unread| .sK=>1
 | .left| .box| .start| .heap| .nI=>2
 | .zZ| .note| .bJ| .Ar| .strong| .fill| .Ac=>3
 | .tally=>5
def Ev (w:ay):Option jV:=Jw.find? fun c=>c.word==w
theorem OT {w:ay} {c:jV} (h:Ev w=some c):w=c.word:=by
 have:=List.find?_some h;exact(beq_iff_eq.1 this).symm
def lU:List ay->Option (List Int)
 |[]=>some []
 |p::ps=>(ng p).bind fun n=>(lU ps).map (n:: ·)
theorem Ry: ∀{ps:List ay} {n:List Int},lU ps=some n->n.length=ps.length:=by
 intro ps;induction ps with
 |nil=>intro n h;obtain rfl:=iJ h;rfl
 |cons p ps ih=>
  intro n h;unfold lU at h;cases hp:ng p with
  |none=>rw[hp] at h;cases h
  |some x=>
   cases hq:lU ps with
   |none=>rw[hp,hq] at h;cases h
   |some y=>
    rw[hp,hq] at h;obtain rfl:=iJ h;simp[ih hq]
theorem Vi: ∀{ps:List ay} {n:List Int},lU ps=some n-> ∀x∈n,0<=x/\x<=9999:=by
 intro ps;induction ps with
 |nil=>intro n h x hx;obtain rfl:=iJ h;cases hx
 |cons p ps ih=>
  intro n h x hx;unfold lU at h;cases hp:ng p with
  |none=>rw[hp] at h;cases h
  |some y=>
   cases hq:lU ps with
   |none=>rw[hp,hq] at h;cases h
   |some z=>
    rw[hp,hq] at h;obtain rfl:=iJ h;rcases eQ.1 hx with rfl|hx
    ·exact IJ hp
    ·exact ih hq x hx
def sV (GQ:ay):Option (jV×List Int):=
 (Ev ((gD GQ).headD [])).bind fun c=>if(gD GQ).tail.length=c.many then(lU (gD GQ).tail).map fun n=>(c,n) else none
theorem CX {GQ:ay} {c:jV} {n:List Int} (h:sV GQ=some (c,n)):(gD GQ).headD []=c.word/\n.length=c.many/\(∀x∈n,0<=x/\x<=9999)/\lU (gD GQ).tail=some n:=by
 unfold sV at h;cases hc:Ev ((gD GQ).headD []) with
 |none=>rw[hc] at h;cases h
 |some d=>
  rw[hc,Option.bind_some] at h;split at h
  ·rename_i hl;cases hn:lU (gD GQ).tail with
   |none=>rw[hn] at h;cases h
   |some m=>
    rw[hn] at h;obtain⟨rfl,rfl⟩:=Prod.mk.inj (iJ h);exact⟨OT hc,by rw[Ry hn,hl],Vi hn,rfl⟩
  ·cases h
structure iE where
 led:aO
 heap:bS
 cK:bF
def bW:iE:=
 {led:={field:={rows:=3,aJ:=2,left:=(0,3),aj:=[]},rate:=10,box:=(0,2000),notes:=[]}
  heap:={last:=4,size:=10,aZ:=50,die:=10,ny:=60,start:=(30,30),bJ:=List.replicate 5 (6,6),turns:=[],readings:=[]}
  cK:={heaps:=[(40,40)],aQ:=[],aI:=[]}}
def IA (a b most:Int):Bool:=decide (a<=b)&&decide (b<=most)
def IP (a b most wide:Int):Bool:=decide (a<=b)&&decide (b<=most)&&decide (b<=a+wide)
def iq (last:Int) (p:Int->Bool):List Int:=((List.range (last+1).toNat).map fun(k:Nat)=>(k:Int)).filter p
def lq (s:iE) (l:List FZ):iE:={s with led:={s.led with field:={s.led.field with aj:=l}}}
def mE (s:iE) (l:List (Int×dF)):iE:={s with led:={s.led with notes:=l}}
def gI (s:iE) (h:bS):iE:={s with heap:=h}
def eH (s:iE) (c:bF):iE:={s with cK:=c}
def ib (s:iE):jV->List Int->Int×iE
 | .row,_=>if 5<=s.led.field.rows then(3,s) else(0,{s with led:={s.led with field:={s.led.field with rows:=s.led.field.rows+1}}})
 | .left,n=>if IA (n.getD 0 0) (n.getD 1 0) s.led.field.rows=false then(2,s)
    else(0,{s with led:={s.led with field:={s.led.field with left:=(n.getD 0 0,n.getD 1 0)}}})
 | .tally,n=>if s.led.field.aJ<=n.getD 0 0 then(7,s) else if s.led.field.rows<=n.getD 1 0∨s.led.field.rows<=n.getD 2 0 then(7,s)
    else if n.getD 2 0<n.getD 1 0 then(2,s) else if IA (n.getD 3 0) (n.getD 4 0) s.led.field.rows=false then(2,s)
    else if 5<=s.led.field.aj.length then(3,s)
    else(0,lq s (s.led.field.aj++[(n.getD 0 0,n.getD 1 0,n.getD 2 0,(n.getD 3 0,n.getD 4 0))]))
 | .zZ,n=>if(s.led.field.aj.length:Int)<=n.getD 0 0 then(7,s) else if IA (n.getD 1 0) (n.getD 2 0) s.led.field.rows=false then(2,s)
    else(0,lq s (s.led.field.aj.set (n.getD 0 0).toNat
     (let t:=s.led.field.aj.getD (n.getD 0 0).toNat (0,0,0,(0,0));(t.1,t.2.1,t.2.2.1,(n.getD 1 0,n.getD 2 0)))))
 | .lu,n=>if(s.led.field.aj.length:Int)<=n.getD 0 0 then(7,s) else(0,lq s (s.led.field.aj.eraseIdx (n.getD 0 0).toNat))
 | .rate,n=>if n.getD 0 0=0∨50<n.getD 0 0 then(2,s) else(0,{s with led:={s.led with rate:=n.getD 0 0}})
 | .box,n=>if IA (n.getD 0 0) (n.getD 1 0) 2000=false then(2,s) else(0,{s with led:={s.led with box:=(n.getD 0 0,n.getD 1 0)}})
 | .note,n=>if s.led.field.aJ<=n.getD 0 0 then(7,s) else if IA (n.getD 1 0) (n.getD 2 0) 2000=false then(2,s)
    else if 5<=s.led.notes.length then(3,s) else(0,mE s (s.led.notes++[(n.getD 0 0,(n.getD 1 0,n.getD 2 0))]))
 | .void,n=>if(s.led.notes.length:Int)<=n.getD 0 0 then(7,s) else(0,mE s (s.led.notes.eraseIdx (n.getD 0 0).toNat))
 | .start,n=>if IP (n.getD 0 0) (n.getD 1 0) 500 2=false then(2,s) else(0,gI s {s.heap with start:=(n.getD 0 0,n.getD 1 0)})
 | .bJ,n=>if s.heap.last<n.getD 0 0 then(7,s) else if IP (n.getD 1 0) (n.getD 2 0) 20 2=false then(2,s)
    else(0,gI s {s.heap with bJ:=s.heap.bJ.set (n.getD 0 0).toNat (n.getD 1 0,n.getD 2 0)})
 | .turn,n=>if s.heap.last<n.getD 0 0 then(7,s) else if s.heap.turns.contains (n.getD 0 0) then(6,s)
    else(0,gI s {s.heap with turns:=iq s.heap.last fun i=>i==n.getD 0 0 ||s.heap.turns.contains i})
 | .nK,n=>if s.heap.turns.contains (n.getD 0 0)=false then(7,s)
    else(0,gI s {s.heap with turns:=iq s.heap.last fun i=>i !=n.getD 0 0&&s.heap.turns.contains i})
 | .Ar,n=>if s.heap.last<n.getD 0 0 then(7,s) else if 1000<n.getD 1 0∨50<n.getD 2 0 then(2,s)
    else if 5<=s.heap.readings.length then(3,s) else(0,gI s {s.heap with readings:=s.heap.readings++[(n.getD 0 0,n.getD 1 0,n.getD 2 0)]})
 | .unread,n=>if(s.heap.readings.length:Int)<=n.getD 0 0 then(7,s) else(0,gI s {s.heap with readings:=s.heap.readings.eraseIdx (n.getD 0 0).toNat})
 | .heap,n=>if IP (n.getD 0 0) (n.getD 1 0) 100 9=false then(2,s) else if 3<=s.cK.heaps.length then(3,s)
    else(0,eH s {s.cK with heaps:=s.cK.heaps++[(n.getD 0 0,n.getD 1 0)],aQ:=s.cK.aQ.map (· ++[0])})
 | .strong,n=>if(s.cK.heaps.length:Int)<=n.getD 0 0 then(7,s) else if IP (n.getD 1 0) (n.getD 2 0) 100 9=false then(2,s)
    else(0,eH s {s.cK with heaps:=s.cK.heaps.set (n.getD 0 0).toNat (n.getD 1 0,n.getD 2 0)})
 | .nI,n=>if(s.cK.heaps.length:Int)<=n.getD 0 0 then(7,s) else if n.getD 1 0=0∨30<n.getD 1 0 then(2,s)
    else if 3<=s.cK.aQ.length then(3,s)
    else(0,eH s {s.cK with aQ:=s.cK.aQ++[(List.replicate s.cK.heaps.length 0).set (n.getD 0 0).toNat (n.getD 1 0)]})
 | .fill,n=>if(s.cK.aQ.length:Int)<=n.getD 0 0 then(7,s) else if(s.cK.heaps.length:Int)<=n.getD 1 0 then(7,s) else if 30<n.getD 2 0 then(2,s)
    else if((s.cK.aQ.getD (n.getD 0 0).toNat []).set (n.getD 1 0).toNat (n.getD 2 0)).any (fun x=>decide (0<x))=false then(8,s)
    else(0,eH s {s.cK with aQ:=s.cK.aQ.set (n.getD 0 0).toNat ((s.cK.aQ.getD (n.getD 0 0).toNat []).set (n.getD 1 0).toNat (n.getD 2 0))})
 | .Ac,n=>if(s.cK.aQ.length:Int)<=n.getD 0 0 then(7,s) else if IP (n.getD 1 0) (n.getD 2 0) 100 100=false then(2,s)
    else if 5<=s.cK.aI.length then(3,s) else(0,eH s {s.cK with aI:=s.cK.aI++[(true,n.getD 0 0,(n.getD 1 0,n.getD 2 0))]})
 | .sK,n=>if(s.cK.aI.length:Int)<=n.getD 0 0 then(7,s) else(0,eH s {s.cK with aI:=s.cK.aI.eraseIdx (n.getD 0 0).toNat})
structure eB (s:iE):Prop where
 rows:3<=s.led.field.rows/\s.led.field.rows<=5
 aJ:s.led.field.aJ=2
 left:0<=s.led.field.left.1/\s.led.field.left.1<=s.led.field.left.2/\s.led.field.left.2<=s.led.field.rows
 Ag:s.led.field.aj.length<=5
 sG: ∀t∈s.led.field.aj,(0<=t.1/\t.1<2)/\(0<=t.2.1/\t.2.1<=t.2.2.1/\t.2.2.1<s.led.field.rows)/\(0<=t.2.2.2.1/\t.2.2.2.1<=t.2.2.2.2/\t.2.2.2.2<=s.led.field.rows)
 rate:1<=s.led.rate/\s.led.rate<=50
 box:0<=s.led.box.1/\s.led.box.1<=s.led.box.2/\s.led.box.2<=2000
 notes:s.led.notes.length<=5
 note: ∀t∈s.led.notes,(0<=t.1/\t.1<2)/\(0<=t.2.1/\t.2.1<=t.2.2/\t.2.2<=2000)
 heap:s.heap.last=4/\s.heap.size=10/\s.heap.aZ=50/\s.heap.die=10/\s.heap.ny=60
 start:0<=s.heap.start.1/\s.heap.start.1<=s.heap.start.2/\s.heap.start.2<=500/\s.heap.start.2<=s.heap.start.1+2
 MV:s.heap.bJ.length=5
 bJ: ∀r∈s.heap.bJ,0<=r.1/\r.1<=r.2/\r.2<=20/\r.2<=r.1+2
 turns: ∃p,s.heap.turns=iq 4 p
 reads:s.heap.readings.length<=5
 read: ∀x∈s.heap.readings,(0<=x.1/\x.1<=4)/\(0<=x.2.1/\x.2.1<=1000)/\(0<=x.2.2/\x.2.2<=50)
 L8:1<=s.cK.heaps.length/\s.cK.heaps.length<=3
 cK: ∀r∈s.cK.heaps,0<=r.1/\r.1<=r.2/\r.2<=100/\r.2<=r.1+9
 aQ:s.cK.aQ.length<=3
 nI: ∀l∈s.cK.aQ,l.length=s.cK.heaps.length/\(∀x∈l,0<=x/\x<=30)/\0<kM l
 aI:s.cK.aI.length<=5
 trial: ∀t∈s.cK.aI,t.1=true/\(0<=t.2.1/\t.2.1<s.cK.aQ.length)/\(0<=t.2.2.1/\t.2.2.1<=t.2.2.2/\t.2.2.2<=100)
theorem uN:eB bW where
 rows:=by decide
 aJ:=rfl
 left:=by decide
 Ag:=by decide
 sG:=fun _ h=>by cases h
 rate:=by decide
 box:=by decide
 notes:=by decide
 note:=fun _ h=>by cases h
 heap:=by decide
 start:=by decide
 MV:=rfl
 bJ:=fun r h=>by obtain rfl:=List.eq_of_mem_replicate h;decide
 turns:=⟨fun _=>false,by decide⟩
 reads:=by decide
 read:=fun _ h=>by cases h
 L8:=by decide
 cK:=fun r h=>by obtain rfl:=dX.1 h;decide
 aQ:=by decide
 nI:=fun _ h=>by cases h
 aI:=by decide
 trial:=fun _ h=>by cases h
theorem Ck {n:List Int} (h: ∀x∈n,0<=x/\x<=9999) (i:Nat):0<=n.getD i 0/\n.getD i 0<=9999:=by
 by_cases hi:i<n.length
 ·rw[fK,dn hi,Option.getD_some];exact h _ (bZ hi)
 ·rw[fK,List.getElem?_eq_none ϑ];exact⟨by decide,by decide⟩
theorem tC {α:Type} {l:List α} {i:Nat} {x y:α} (h:y∈l.set i x):y=x∨y∈l:=by
 rcases List.mem_or_eq_of_mem_set h with h|h
 ·exact .inr h
 ·exact .inl h
theorem Yx {l:List Int} (h: ∀x∈l,0<=x/\x<=30):0<=kM l:=(Cg ϑ h).1
theorem JX {l:List Int} (h: ∀x∈l,0<=x/\x<=30):0<kM l↔l.any (fun x=>decide (0<x))=true:=by
 induction l with
 |nil=>simp[kM]
 |cons x l ih=>
  have h1:=h x ϕ;have h2:=Yx (l:=l) (fun y hy=>h y (by simp[hy]));have h3:=ih (fun y hy=>h y (by simp[hy]));rw[List.any_cons,Bool.or_eq_true, <-h3,dZ];simp only[kM];omega
theorem Nb (l:List Int):kM (l++[0])=kM l:=by rw[JY];simp[kM]
theorem vP {a b m:Int}:IA a b m=true↔a<=b/\b<=m:=by simp[IA]
theorem vX {a b m w:Int}:IP a b m w=true↔a<=b/\b<=m/\b<=a+w:=by simp[IP,and_assoc]
theorem mem_erase {α:Type} {l:List α} {i:Nat} {x:α} (h:x∈l.eraseIdx i):x∈l:=List.mem_of_mem_eraseIdx h
theorem wZ {α:Type} (l:List α) (i:Nat):(l.eraseIdx i).length<=l.length:=List.length_eraseIdx_le l i
theorem XA {s:iE} (hG:eB s) (c:jV) {n:List Int} (hn: ∀x∈n,0<=x/\x<=9999) (h0:(ib s c n).1=0):eB (ib s c n).2:=by
 have n0:=Ck hn 0;have n1:=Ck hn 1;have n2:=Ck hn 2;have n3:=Ck hn 3;cases c <;>simp only[ib] at h0⊢
 case row=>
  split at h0 <;>first|omega|skip
  rename_i h1;rw[ak h1];have:=hG.rows;have:=hG.left;exact {hG with rows:=by simp only;omega,left:=by simp only;omega,sG:=fun t ht=>by have:=hG.sG t ht;simp only at*;omega}
 case left=>
  split at h0 <;>first|omega|skip
  rename_i h1;rw[ak h1];rw[Bool.not_eq_false,vP] at h1;exact {hG with left:=by simp only;omega}
 case tally=>
  repeat' (split at h0;· omega)
  rename_i h1 h2 h3 h4 h5;rw[ak h1,ak h2,ak h3,ak h4,ak h5];rw[Bool.not_eq_false,vP] at h4;have hw:=hG.aJ;refine {hG with Ag:=by simp[lq];omega,sG:=fun t ht=>?_}
  rcases gq.1 ht with ht|ht
  ·exact hG.sG t ht
  ·obtain rfl:=dX.1 ht;simp only[lq];omega
 case zZ=>
  repeat' (split at h0;· omega)
  rename_i h1 h2;rw[ak h1,ak h2];rw[Bool.not_eq_false,vP] at h2;refine {hG with Ag:=by simp[lq];exact hG.Ag,sG:=fun t ht=>?_}
  rcases tC ht with rfl|ht
  ·have hk:(n.getD 0 0).toNat<s.led.field.aj.length:=ϑ;have:=hG.sG _ (bZ hk);rw[fK (l:=s.led.field.aj),dn hk,Option.getD_some];simp only[lq];omega
  ·exact hG.sG t ht
 case lu=>
  repeat' (split at h0;· omega)
  rename_i h1;rw[ak h1];exact {hG with Ag:=eU (wZ _ _) hG.Ag,sG:=fun t ht=>hG.sG t (mem_erase ht)}
 case rate=>
  repeat' (split at h0;· omega)
  rename_i h1;rw[ak h1];exact {hG with rate:=by simp only;omega}
 case box=>
  repeat' (split at h0;· omega)
  rename_i h1;rw[ak h1];rw[Bool.not_eq_false,vP] at h1;exact {hG with box:=by simp only;omega}
 case note=>
  repeat' (split at h0;· omega)
  rename_i h1 h2 h3;rw[ak h1,ak h2,ak h3];rw[Bool.not_eq_false,vP] at h2;have hw:=hG.aJ;refine {hG with notes:=by simp[mE];omega,note:=fun t ht=>?_}
  rcases gq.1 ht with ht|ht
  ·exact hG.note t ht
  ·obtain rfl:=dX.1 ht;simp only;omega
 case void=>
  repeat' (split at h0;· omega)
  rename_i h1;rw[ak h1];exact {hG with notes:=eU (wZ _ _) hG.notes,note:=fun t ht=>hG.note t (mem_erase ht)}
 case start=>
  repeat' (split at h0;· omega)
  rename_i h1;rw[ak h1];rw[Bool.not_eq_false,vX] at h1;exact {hG with start:=by simp only[gI];omega}
 case bJ=>
  repeat' (split at h0;· omega)
  rename_i h1 h2;rw[ak h1,ak h2];rw[Bool.not_eq_false,vX] at h2;refine {hG with MV:=by simp[gI];exact hG.MV,bJ:=fun r hr=>?_}
  rcases tC hr with rfl|hr
  ·simp only;omega
  ·exact hG.bJ r hr
 case turn=>
  repeat' (split at h0;· omega)
  rename_i h1 h2;rw[ak h1,ak h2];exact {hG with turns:=⟨_,by simp only[gI,hG.heap.1];rfl⟩}
 case nK=>
  repeat' (split at h0;· omega)
  rename_i h1;rw[ak h1];exact {hG with turns:=⟨_,by simp only[gI,hG.heap.1];rfl⟩}
 case Ar=>
  repeat' (split at h0;· omega)
  rename_i h1 h2 h3;rw[ak h1,ak h2,ak h3];have hl:=hG.heap.1;refine {hG with reads:=by simp[gI];omega,read:=fun t ht=>?_}
  rcases gq.1 ht with ht|ht
  ·exact hG.read t ht
  ·obtain rfl:=dX.1 ht;simp only;omega
 case unread=>
  repeat' (split at h0;· omega)
  rename_i h1;rw[ak h1];exact {hG with reads:=eU (wZ _ _) hG.reads,read:=fun t ht=>hG.read t (mem_erase ht)}
 case heap=>
  repeat' (split at h0;· omega)
  rename_i h1 h2;rw[ak h1,ak h2];rw[Bool.not_eq_false,vX] at h1;refine {hG with L8:=by simp[eH];omega,cK:=fun r hr=>?_,aQ:=by simp[eH];exact hG.aQ,nI:=fun l hl=>?_,trial:=fun t ht=>?_}
  ·rcases gq.1 hr with hr|hr
   ·exact hG.cK r hr
   ·obtain rfl:=dX.1 hr;simp only;omega
  ·obtain⟨m,hm,rfl⟩:=gW.1 hl;have:=hG.nI m hm;refine⟨by simp[eH,this.1],fun x hx=>?_,by rw[Nb];exact this.2.2⟩;rcases gq.1 hx with hx|hx
   ·exact this.2.1 x hx
   ·obtain rfl:=dX.1 hx;decide
  ·have:=hG.trial t ht;simp only[eH,kJ];exact this
 case strong=>
  repeat' (split at h0;· omega)
  rename_i h1 h2;rw[ak h1,ak h2];rw[Bool.not_eq_false,vX] at h2;refine {hG with L8:=by simp[eH];exact hG.L8,cK:=fun r hr=>?_,nI:=fun l hl=>by simp[eH];exact hG.nI l hl}
  rcases tC hr with rfl|hr
  ·simp only;omega
  ·exact hG.cK r hr
 case nI=>
  repeat' (split at h0;· omega)
  rename_i h1 h2 h3;rw[ak h1,ak h2,ak h3];have hk:(n.getD 0 0).toNat<s.cK.heaps.length:=ϑ;have hx: ∀x∈(List.replicate s.cK.heaps.length (0:Int)).set (n.getD 0 0).toNat (n.getD 1 0),0<=x/\x<=30:=fun x hx=>by
   rcases tC hx with rfl|hx
   ·omega
   ·obtain rfl:=List.eq_of_mem_replicate hx;decide
  refine {hG with aQ:=by simp[eH];omega,nI:=fun l hl=>?_,trial:=fun t ht=>?_}
  ·rcases gq.1 hl with hl|hl
   ·exact hG.nI l hl
   ·obtain rfl:=dX.1 hl;refine⟨by simp[eH],hx,(JX hx).2 ?_⟩;rw[List.any_eq_true];exact⟨n.getD 1 0,List.mem_iff_getElem.2 ⟨(n.getD 0 0).toNat,by simpa using hk,List.getElem_set_self _⟩,decide_eq_true ϑ⟩
  ·have:=hG.trial t ht;simp only[eH,cu,List.length_singleton];exact⟨this.1,by omega,this.2.2⟩
 case fill=>
  repeat' (split at h0;· omega)
  rename_i h1 h2 h3 h4;rw[ak h1,ak h2,ak h3,ak h4];have hk:(n.getD 0 0).toNat<s.cK.aQ.length:=ϑ;have hb:=hG.nI _ (bZ hk);rw[fK (l:=s.cK.aQ),dn hk,Option.getD_some] at h4⊢;have hx: ∀x∈s.cK.aQ[(n.getD 0 0).toNat].set (n.getD 1 0).toNat (n.getD 2 0),0<=x/\x<=30:=fun x hx=>by
   rcases tC hx with rfl|hx
   ·omega
   ·exact hb.2.1 x hx
  refine {hG with aQ:=by simp[eH];exact hG.aQ,nI:=fun l hl=>?_,trial:=fun t ht=>?_}
  ·rcases tC hl with rfl|hl
   ·exact⟨by rw[nV];exact hb.1,hx,(JX hx).2 (by simpa using h4)⟩
   ·exact hG.nI l hl
  ·have:=hG.trial t ht;simp only[eH,nV];exact this
 case Ac=>
  repeat' (split at h0;· omega)
  rename_i h1 h2 h3;rw[ak h1,ak h2,ak h3];rw[Bool.not_eq_false,vX] at h2;refine {hG with aI:=by simp[eH];omega,trial:=fun t ht=>?_}
  rcases gq.1 ht with ht|ht
  ·exact hG.trial t ht
  ·obtain rfl:=dX.1 ht;exact⟨rfl,by simp only[eH];omega,by simp only;omega⟩
 case sK=>
  repeat' (split at h0;· omega)
  rename_i h1;rw[ak h1];exact {hG with aI:=eU (wZ _ _) hG.aI,trial:=fun t ht=>hG.trial t (mem_erase ht)}
open Go.Lib
abbrev xz (k:Nat):UInt8:=UInt8.ofNat (48+k)
theorem j5 {k:Nat} (h:k<10):(xz k).toNat=48+k:=by simp[xz];omega
theorem AU {k:Nat} (h:k<10):jb (xz k)=true:=by
 simp only[jb,j5 h,dU,dZ];omega
theorem acI {k:Nat} (h:k<10) (h1:1<=k):xz k≠48:=fun e=>by
 have:=congrArg UInt8.toNat e;rw[j5 h] at this;have h2:(48:UInt8).toNat=48:=by decide
 omega
theorem Jg {c:UInt8} (h:jb c=true): ∃k,k<10/\c=xz k:=by
 simp only[jb,dU,dZ] at h;refine⟨c.toNat-48,by omega,?_⟩;apply UInt8.toNat_inj.1;rw[j5 ϑ];omega
theorem jq {u:Nat} (h:u<10):decDigits u=[xz u]:=by rw[decDigits,dif_pos h]
theorem uJ {u:Nat} (h: ¬u<10):decDigits u=decDigits (u/10)++[xz (u%10)]:=by rw[decDigits,dif_neg h]
theorem Xf: ∀u, ∀c∈decDigits u, ∃k,k<10/\c=xz k:=by
 intro u;induction u using Nat.strongRecOn with
 |_ u ih=>
  intro c hc;by_cases h:u<10
  ·rw[jq h] at hc;obtain rfl:=dX.1 hc;exact⟨u,h,rfl⟩
  ·rw[uJ h] at hc;rcases gq.1 hc with hc|hc
   ·exact ih _ ϑ c hc
   ·obtain rfl:=dX.1 hc;exact⟨u%10,by omega,rfl⟩
theorem Xe (u:Nat):1<=(decDigits u).length:=by
 by_cases h:u<10
 ·rw[jq h];exact ah _
 ·rw[uJ h];simp
theorem Gb (s:ay) (c:UInt8):yJ (s++[c])=10*yJ s+((c.toNat:Int)-48):=by unfold yJ;rw[List.foldl_append];rfl
theorem Yj (u:Nat):yJ (decDigits u)=u:=by
 induction u using Nat.strongRecOn with
 |_ u ih=>
  by_cases h:u<10
  ·rw[jq h];show 10*(0:Int)+(((xz u).toNat:Int)-48)=u;rw[j5 h];omega
  ·rw[uJ h,Gb,ih _ ϑ,j5 ϑ];omega
theorem Jj: ∀(k u:Nat),u<10^(k+1)->(decDigits u).length<=k+1:=by
 intro k;induction k with
 |zero=>intro u h;rw[jq ϑ];exact ah _
 |succ k ih=>
  intro u h;by_cases hu:u<10
  ·rw[jq hu];simp
  ·rw[uJ hu,cu];have:=ih (u/10) (by rw[Nat.pow_succ] at h;omega);simp only[List.length_singleton];omega
theorem agB (u:Nat):u<10^(decDigits u).length:=by
 induction u using Nat.strongRecOn with
 |_ u ih=>
  by_cases h:u<10
  ·rw[jq h];simpa using h
  ·rw[uJ h,cu,List.length_singleton,Nat.pow_succ];have:=ih (u/10) ϑ;omega
theorem ZP {u:Nat} (h1:1<=u):(decDigits u).headD 0≠48:=by
 induction u using Nat.strongRecOn with
 |_ u ih=>
  by_cases h:u<10
  ·rw[jq h];exact acI h h1
  ·rw[uJ h];have h2:=ih (u/10) ϑ ϑ;have h3:=Xe (u/10);cases hd:decDigits (u/10) with
   |nil=>rw[hd] at h3;simp at h3
   |cons a l=>rw[hd] at h2;exact h2
theorem YU {u:Nat} (h:u<10000):ng (decDigits u)=some (u:Int):=by
 have h1:=Xe u;have h2:=Jj 3 u (by simpa using h);have h3:(decDigits u).all jb=true:=by
  rw[jh];intro c hc;obtain⟨k,hk,rfl⟩:=Xf u c hc;exact AU hk
 unfold ng;rw[aG,Yj];unfold Lf;rw[h3,decide_eq_true h1,decide_eq_true h2];by_cases hu:u=0
 ·subst hu;rw[jq ϑ];decide
 ·rw[decide_eq_true (ZP (u:=u) ϑ)];rfl
theorem ZO: ∀(k:Nat) (s:ay),s.length=k+1->s.all jb=true->(s.headD 0≠48∨s.length=1)->decDigits (yJ s).toNat=s:=by
 intro k;induction k with
 |zero=>
  intro s hl hd _;obtain⟨c,rfl⟩:=List.length_eq_one_iff.1 hl;have hc:jb c=true:=by simpa using hd
  obtain⟨j,hj,rfl⟩:=Jg hc;show decDigits (10*(0:Int)+(((xz j).toNat:Int)-48)).toNat=_;rw[j5 hj,show(10*(0:Int)+(((48+j:Nat):Int)-48)).toNat=j from ϑ,jq hj]
 |succ k ih=>
  intro s hl hd hh;obtain⟨t,c,rfl⟩: ∃t c,s=t++[c]:=by
   rcases List.eq_nil_or_concat s with rfl|⟨t,c,rfl⟩
   ·simp at hl
   ·exact⟨t,c,by simp⟩
  have hl':t.length=k+1:=by simpa using hl
  rw[List.all_append,dU] at hd;have hc:jb c=true:=by simpa using hd.2
  obtain⟨j,hj,rfl⟩:=Jg hc;have hne:t.headD 0≠48:=by
   rcases hh with hh|hh
   ·cases t with
    |nil=>simp at hl'
    |cons a t=>exact hh
   ·rw[hl] at hh;omega
  have h1:=ih t hl' hd.1 (.inl hne);have hb:=PR t 0 ϑ hd.1;have hpos:1<=yJ t:=by
   have hnn:0<=yJ t:=by unfold yJ;omega
   by_cases hz:yJ t=0
   ·rw[hz] at h1;have h48:decDigits (0:Int).toNat=[48]:=by rw[show(0:Int).toNat=0 from rfl,jq ϑ];rfl
    rw[h48] at h1;rw[<-h1] at hne;exact absurd rfl hne
   ·omega
  rw[Gb,j5 hj,uJ ϑ];rw[show(10*yJ t+(((48+j:Nat):Int)-48)).toNat/10=(yJ t).toNat from ϑ,show(10*yJ t+(((48+j:Nat):Int)-48)).toNat%10=j from ϑ,h1]
theorem Ch {s:ay} {v:Int} (h:ng s=some v):s=decDigits v.toNat/\s.length<=4:=by
 unfold ng at h;split at h
 ·rename_i hf;obtain rfl:=iJ h;simp only[Lf,dU,Bool.or_eq_true,dZ] at hf;obtain⟨⟨⟨h1,h2⟩,h3⟩,h4⟩:=hf;exact⟨(ZO (s.length-1) s ϑ h4 h3).symm,h2⟩
 ·cases h
theorem Lu {c:UInt8} (h:jb c=true):digitVal c=some (c.toNat-48):=by
 simp only[jb,dU,dZ] at h;unfold digitVal;rw[aG h]
theorem OO: ∀(s:ay) (acc:Nat),s.all jb=true-> ∃m:Nat,decFrom acc s=some m/\(m:Int)=s.foldl (fun n c=>10*n+((c.toNat:Int)-48)) (acc:Int):=by
 intro s;induction s with
 |nil=>intro acc _;exact⟨acc,rfl,rfl⟩
 |cons c s ih=>
  intro acc h;rw[List.all_cons,dU] at h;obtain⟨m,h1,h2⟩:=ih (acc*10+(c.toNat-48)) h.2;have hd:=h.1;simp only[jb,dU,dZ] at hd;refine⟨m,by rw[decFrom,Lu h.1];exact h1,?_⟩;rw[h2,List.foldl_cons];congr 1;omega
theorem BK {s:ay} {v:Int} (h:ng s=some v):atoi s=some v:=by
 unfold ng at h;split at h
 ·rename_i hf;obtain rfl:=iJ h;simp only[Lf,dU,Bool.or_eq_true,dZ] at hf;obtain⟨⟨⟨h1,h2⟩,h3⟩,h4⟩:=hf;cases s with
  |nil=>simp at h1
  |cons c s=>
   have hd:=h4;rw[List.all_cons,dU] at hd;have hc:=hd.1;simp only[jb,dU,dZ] at hc;have n45:(c==45)=false:=by
    rw[ES];rintro rfl;revert hc;decide
   have n43:(c==43)=false:=by
    rw[ES];rintro rfl;revert hc;decide
   obtain⟨m,e1,e2⟩:=OO (c::s) 0 h4;have e3:atoi (c::s)=(decNat (c::s)).map fun(m:Nat)=>(m:Int):=by
    simp only[atoi,n45,n43,Bool.false_eq_true,if_false]
   rw[e3];unfold decNat;rw[ak ϕ,e1];exact congrArg some e2
 ·cases h
theorem Kw {s:ay} {v:Int} (h0:0<=v) (hl:s.length<=4) (he:itoa v=s):ng s=some v:=by
 unfold itoa at he;rw[ak ϑ] at he;have h1:=agB v.toNat;rw[he] at h1;have h2:v.toNat<10000:=eF h1 (by
  have:=Nat.pow_le_pow_right (show 0<10 by omega) hl;simpa using this)
 have:=YU h2;rw[he] at this;rw[this];congr 1;omega
theorem VD {s:ay} {v:Int} (h:ng s=some v):itoa v=s:=by
 unfold itoa;have:=(IJ h).1;rw[ak ϑ];exact(Ch h).1.symm
section
variable (st : iE → Int)
def oN (s:iE) (GQ:ay):iE×Int:=
 match sV GQ with
 |none=>(s,4)
 |some (c,n)=>if(ib s c n).1≠0 then(s,(ib s c n).1) else if st (ib s c n).2≠0 then(s,st (ib s c n).2) else((ib s c n).2,0)
def dK:iE->List ay->iE×List Int
 |s,[]=>(s,[])
 |s,l::ls=>((dK (oN st s l).1 ls).1,(oN st s l).2::(dK (oN st s l).1 ls).2)
def Cb:iE->List ay->List ay
 |_,[]=>[]
 |s,l::ls=>if(oN st s l).2=0 then l::Cb (oN st s l).1 ls else Cb (oN st s l).1 ls
variable {st}
theorem zH {s:iE} {GQ:ay} (h:sV GQ=none):oN st s GQ=(s,4):=by unfold oN;rw[h]
theorem zG {s:iE} {GQ:ay} {c:jV} {n:List Int} (h:sV GQ=some (c,n)):
 oN st s GQ=if(ib s c n).1≠0 then(s,(ib s c n).1) else if st (ib s c n).2≠0 then(s,st (ib s c n).2) else((ib s c n).2,0):=by unfold oN;rw[h]
theorem aaS {s:iE} {GQ:ay} (h:(oN st s GQ).2=0): ∃c n,sV GQ=some (c,n)/\(ib s c n).1=0/\st (ib s c n).2=0/\oN st s GQ=((ib s c n).2,0):=by
 cases hp:sV GQ with
 |none=>rw[zH hp] at h;cases h
 |some x=>
  obtain⟨c,n⟩:=x;rw[zG hp] at h⊢;split at h
  ·rename_i h1;exact absurd h h1
  ·rename_i h1;split at h
   ·rename_i h2;exact absurd h h2
   ·rename_i h2;rw[ak h1,ak h2];exact⟨c,n,rfl,by simpa using h1,by simpa using h2,rfl⟩
theorem WZ {s:iE} {GQ:ay} (h:(oN st s GQ).2≠0):(oN st s GQ).1=s:=by
 cases hp:sV GQ with
 |none=>rw[zH hp]
 |some x=>
  obtain⟨c,n⟩:=x;rw[zG hp] at h⊢;split
  ·rfl
  ·rename_i h1;split
   ·rfl
   ·rename_i h2;rw[ak h1,ak h2] at h;exact absurd rfl h
theorem ZL {s:iE} (hG:eB s) (GQ:ay):eB (oN st s GQ).1:=by
 by_cases h:(oN st s GQ).2=0
 ·obtain⟨c,n,h1,h2,_,h4⟩:=aaS h;rw[h4];exact XA hG c (CX h1).2.2.1 h2
 ·rw[WZ h];exact hG
theorem SY {s:iE} (hs:st s=0) (GQ:ay):st (oN st s GQ).1=0:=by
 by_cases h:(oN st s GQ).2=0
 ·obtain⟨c,n,_,_,h3,h4⟩:=aaS h;rw[h4];exact h3
 ·rw[WZ h];exact hs
theorem wU: ∀(ls:List ay) {s:iE},eB s->eB (dK st s ls).1:=by
 intro ls;induction ls with
 |nil=>intro s h;exact h
 |cons l ls ih=>intro s h;exact ih (ZL h l)
theorem Kn: ∀(ls:List ay) {s:iE},st s=0->st (dK st s ls).1=0:=by
 intro ls;induction ls with
 |nil=>intro s h;exact h
 |cons l ls ih=>intro s h;exact ih (SY h l)
theorem U2: ∀(ls:List ay) (s:iE),(dK st s ls).2.length=ls.length:=by
 intro ls;induction ls with
 |nil=>intro s;rfl
 |cons l ls ih=>intro s;simp[dK,ih]
theorem U3: ∀(a b:List ay) (s:iE),dK st s (a++b)=((dK st (dK st s a).1 b).1,(dK st s a).2++(dK st (dK st s a).1 b).2):=by
 intro a;induction a with
 |nil=>intro b s;rfl
 |cons x a ih=>intro b s;simp only[List.cons_append,dK,ih]
theorem Gv (ls:List ay) (l:ay) (s:iE):dK st s (ls++[l])=((oN st (dK st s ls).1 l).1,(dK st s ls).2++[(oN st (dK st s ls).1 l).2]):=by
 rw[U3];rfl
theorem Z9: ∀(a b:List ay) (s:iE),Cb st s (a++b)=Cb st s a++Cb st (dK st s a).1 b:=by
 intro a;induction a with
 |nil=>intro b s;rfl
 |cons x a ih=>
  intro b s;simp only[List.cons_append,Cb,ih,dK];split <;>rfl
theorem Z7: ∀(ls:List ay) (s:iE), ∀l∈Cb st s ls,l∈ls:=by
 intro ls;induction ls with
 |nil=>intro s l h;cases h
 |cons x ls ih=>
  intro s l h;unfold Cb at h;split at h
  ·rcases eQ.1 h with rfl|h
   ·simp
   ·simp[ih _ l h]
  ·simp[ih _ l h]
theorem Z8: ∀(ls:List ay) (s:iE),(Cb st s ls).length<=ls.length:=by
 intro ls;induction ls with
 |nil=>intro s;exact ah _
 |cons x ls ih=>
  intro s;unfold Cb;split
  ·simp only[List.length_cons];have:=ih (oN st s x).1;omega
  ·simp only[List.length_cons];have:=ih (oN st s x).1;omega
end
theorem wV {last:Int} {p:Int->Bool} {i:Int}:i∈iq last p↔(0<=i/\i<=last)/\p i=true:=by
 unfold iq;rw[List.mem_filter,gW];constructor
 ·rintro⟨⟨k,hk,rfl⟩,hp⟩;have:=jQ.1 hk;exact⟨by omega,hp⟩
 ·rintro⟨h,hp⟩;exact⟨⟨i.toNat,jQ.2 ϑ,by omega⟩,hp⟩
variable {st : iE → Int}
open Go.RowKit Go.RG Go.SL Go.Shelf Go.TB
def dD (l:List Bool):List Value:=l.map fun b=> .bool b
abbrev zV (w:World) (v:Value) (l:List Bool):Prop:=aH 1 w v l.length (dD l)
theorem zV.cell {w:World} {o:Option Addr} {n c:Nat} {l:List Bool} (h:aH 1 w (.slice o n c) n (dD l)) {k:Nat} (hk:k<l.length): ∃b off,o=some ⟨b,off,none⟩/\b<w.heap.size/\w.cell? ⟨b,off+k,none⟩=some (.bool l[k]):=by
 obtain⟨hl,o',c',hv,h1,h2,h3,h4⟩:=h;cases hv;have IY:(dD l).length=l.length:=by simp[dD]
 cases o with
 |none=>have:=h3 rfl;omega
 |some a=>
  obtain⟨b,off,sp⟩:=a;obtain⟨hs,hc⟩:=h4 _ rfl;simp only at hs hc;subst hs;have h0:=hc k (.bool l[k]) (by simp[dD,hk]);exact⟨b,off,rfl,dB w _ h0,h0⟩
theorem FX (l:List Bool) (v:Value) (w:World) (hv:zV w v l):Ϝ 174 #[v,.bool true] w (PV (.bool (l.contains true)) w):=by
 have hidx:Ϝ 255 #[v,.bool true] w (fun e w'=>w=w'/\((l.contains true=true/\ ∃k:Nat,k<l.length/\e= .returned (iv k))∨(l.contains true=false/\e= .returned (iv (-1))))):=by
  have IY:=aH.len hv;obtain⟨o,c,rfl⟩:=aH.open hv;have HV:=aa hv;clear hv;go_enter Tryz.func255,Tryz.ntmps255;go_wp2;go_loop [4,5,8] (fun _ _ i=> ∃k:Nat,k<=l.length/\i= .int .i64 k/\(∀j (hj:j<l.length),j<k->l[j]=false)) (fun _ _ i=>l.length-(intOf i).toNat)
  case atStart=>exact⟨0,bE _,rfl,fun j _ hj=>ϑ⟩
  case round=>
   obtain⟨k,hk,rfl,IB⟩:=hrel;have HN:=aa IB;clear IB;by_cases uM:k<l.length
   ·obtain⟨b,off,rfl,hb,hc0⟩:=zV.cell HV.o uM;cases he:l[k]
    ·rw[he] at hc0;exact zaI
    ·rw[he] at hc0;have HE:=aa he;clear he;go_wp2;go_returns;exact⟨rfl,.inl ⟨by first|exact HE.o▸bZ uM|(rw[List.contains_iff_mem, <-HE.o];exact bZ _),k,uM,by simp⟩⟩
   ·have Y9:k=l.length:=ϑ;go_wp2;go_returns;refine⟨rfl,.inr ⟨?_,by simp⟩⟩;(try rw[<-Bool.not_eq_true,List.contains_iff_mem])
    intro hm;obtain⟨j,hj,e⟩:=lK hm;have:=HN.o j hj ϑ;rw[this] at e;cases e
 have HI:=aa hidx;clear hidx;go_enter Tryz.func174,Tryz.ntmps174;go_wp2_with fail
 refine HI.o.mono ?_;rintro e w' ⟨rfl,⟨hc,k,hk,rfl⟩|⟨hc,rfl⟩⟩
 ·exact zaX
 ·exact zaX
abbrev jm (Δ:Int):List PanicEntry:=[{v:= .iface 214 (.agg #[iv Δ]),recovered:=false}]
def Pk (Δ:Int) (c:Bool) (w:World) (e:Ending) (w':World):Prop:=
 Ϙ w w'/\((c=false/\e= .returned (.tuple #[]))∨(c=true/\e= .panicked (jm Δ)))
theorem Nn (Δ:Int) (l:List Bool) (v:Value) (w:World) (hv:zV w v l):Ϝ 99 #[iv Δ,v] w (Pk Δ (l.contains true) w):=by
 have H:=aa (FX l v w hv);obtain⟨o,c,rfl⟩:=aH.open hv;clear hv;cases hq:l.contains true
 ·rw[hq] at H;clear hq;go_enter Tryz.func99,Tryz.ntmps99;go_wp2_with fail
  refine H.o.mono ?_;rintro e w' ⟨rfl,hb⟩;go_wp2_with fail
  go_end0
  exact⟨hb,.inl ⟨rfl,by simp⟩⟩
 ·rw[hq] at H;clear hq;go_enter Tryz.func99,Tryz.ntmps99;go_wp2_with fail
  refine H.o.mono ?_;rintro e w' ⟨rfl,hb⟩;go_wp2_with fail
  exact⟨rfl,hb,.inr ⟨rfl,rfl⟩⟩
def fH:jV->Nat
 | .row=>153
 | .left=>154
 | .tally=>155
 | .zZ=>156
 | .lu=>157
 | .rate=>158
 | .box=>159
 | .note=>160
 | .void=>161
 | .start=>162
 | .bJ=>163
 | .turn=>164
 | .nK=>165
 | .Ar=>166
 | .unread=>167
 | .heap=>168
 | .strong=>169
 | .nI=>170
 | .fill=>171
 | .Ac=>172
 | .sK=>173
abbrev WE:=Nat×Nat
abbrev wev (e:WE):Value:= .agg #[iv e.1,.func (.func e.2) #[] #[]]
abbrev Q6 (s:ByteArray):Value:= .string s
abbrev fT (c:jV):ByteArray:=⟨c.word.toArray⟩
def M9:List (ByteArray×WE):=Jw.map fun c=>(fT c,(c.many,fH c))
theorem Vt (s:ByteArray): ∀l:List jV,TB.look s (l.map fun c=>(fT c,(c.many,fH c)))=(l.find? fun c=>c.word==s.data.toList).map fun c=>(c.many,fH c):=by
 intro l;induction l with
 |nil=>rfl
 |cons c l ih=>
  rw[List.map_cons,TB.look,List.find?_cons,ih];by_cases h:s=fT c
  ·subst h;have:(c.word==(fT c).data.toList)=true:=by simp[fT]
   rw[aG rfl,this];rfl
  ·have:(c.word==s.data.toList)=false:=by
    rw[ES];intro e;refine h ?_;cases s with
    |mk a=>simp only[fT] at*;rw[e]
   rw[ak h,this]
theorem Vs (s:ByteArray):TB.look s M9=(Ev s.data.toList).map fun c=>(c.many,fH c):=Vt s Jw
theorem G9 (k:TypeId) (hk:Tryz.prog.underlying k=some .string) (a b:ByteArray) (w:World):(Op.equal k (.string a) (.string b)).run Tryz.prog w= .ok (decide (a=b)) w:=by
 unfold Op.equal Op.maxDepth;simp only[go_sem,hk];rw[show(a.toList==b.toList)=decide (a=b) from by rw[Bool.eq_iff_iff,Lib.bytes_beq_iff,dZ]]
theorem NH (k:TypeId) (hk:Tryz.prog.underlying k=some .string) (x:Value) (w:World): ∀(es:List MapEntry) (i:Nat) (r:Option (Nat×Value)),Instr.findNow .string x es i=some r->(Instr.findAsking k x es i).run Tryz.prog w= .ok r w:=by
 intro es;induction es with
 |nil=>intro i r h;simp only[Instr.findNow,Option.some.injEq] at h;subst h;rfl
 |cons e es ih=>
  intro i r h;unfold Instr.findNow at h;cases hs:Instr.sameNow .string x e.key with
  |none=>rw[hs] at h;cases h
  |some b=>
   rw[hs] at h;obtain⟨a,c,hx,hc,hb⟩: ∃a c:ByteArray,x= .string a/\e.key= .string c/\b=decide (a=c):=by
    revert hs;cases x <;>cases e.key <;>simp[Instr.sameNow]
    rename_i a c;intro h;rw[<-h];rw[Bool.eq_iff_iff,Go.MapKept.bytes_beq,dZ]
   subst hx
   conv=>lhs;unfold Instr.findAsking
   simp only[Sem.run_bind,hc,G9 k hk a c w,Result.andThen_ok];cases b
   ·rw[<-hb];simp only[Bool.false_eq_true,if_false];exact ih (i+1) r h
   ·rw[<-hb];simp only[Option.some.injEq] at h;subst h;simp
theorem rA:TN Tryz.prog 9 Q6 (fun _=>True) where
 find w x es:=by
  have hk:Tryz.prog.underlying 9=some .string:=ϰ;cases hn:Instr.findNow .string x es 0 with
  |none=>simp[Instr.findKey,run_underlying hk,hn]
  |some r=>
   rw[NH 9 hk x w es 0 r hn];simp[Instr.findKey,run_underlying hk,hn]
 check b a w _:=by
  unfold Instr.checkKey;simp[go_sem]
 eq a b w _ _:=G9 _ ϰ a b w
 bits a _:=by simp only[Instr.sameBits];exact(Go.MapKept.bytes_beq a a).2 rfl
theorem Yq:TB.store (fT .sK) (jV.many .sK,fH .sK) (TB.store (fT .Ac) (jV.many .Ac,fH .Ac) (TB.store (fT .fill) (jV.many .fill,fH .fill) (TB.store (fT .nI) (jV.many .nI,fH .nI) (TB.store (fT .strong) (jV.many .strong,fH .strong) (TB.store (fT .heap) (jV.many .heap,fH .heap) (TB.store (fT .unread) (jV.many .unread,fH .unread) (TB.store (fT .Ar) (jV.many .Ar,fH .Ar) (TB.store (fT .nK) (jV.many .nK,fH .nK) (TB.store (fT .turn) (jV.many .turn,fH .turn) (TB.store (fT .bJ) (jV.many .bJ,fH .bJ) (TB.store (fT .start) (jV.many .start,fH .start) (TB.store (fT .void) (jV.many .void,fH .void) (TB.store (fT .note) (jV.many .note,fH .note) (TB.store (fT .box) (jV.many .box,fH .box) (TB.store (fT .rate) (jV.many .rate,fH .rate) (TB.store (fT .lu) (jV.many .lu,fH .lu) (TB.store (fT .zZ) (jV.many .zZ,fH .zZ) (TB.store (fT .tally) (jV.many .tally,fH .tally) (TB.store (fT .left) (jV.many .left,fH .left) (TB.store (fT .row) (jV.many .row,fH .row) ([])))))))))))))))))))))=M9:=by
 decide+kernel
def ac0 (w:World) (e:Ending) (w':World):Prop:= ∃mb,e= .returned (.map (some mb))/\w.heap.size<=mb/\TabAt Q6 wev (fun _=>True) w' mb M9/\Ϙ w w'
theorem QS (w:World):Ϝ 98 #[] w (ac0 w):=by
 have hmm:= @run_makeMap Tryz.prog;have hm:Tryz.prog.underlying 220=some (.map 9 218):=ϰ;have h0:TabAt Q6 wev (fun _=>True) (w.alloc (.map #[] 0)) w.heap.size []:=IM (av _ _);obtain⟨W1,r1,t1,e1⟩:=eP rA hm h0 (fT .row) trivial (jV.many .row,fH .row);obtain⟨W2,r2,t2,e2⟩:=eP rA hm t1 (fT .left) trivial (jV.many .left,fH .left);obtain⟨W3,r3,t3,e3⟩:=eP rA hm t2 (fT .tally) trivial (jV.many .tally,fH .tally);obtain⟨W4,r4,t4,e4⟩:=eP rA hm t3 (fT .zZ) trivial (jV.many .zZ,fH .zZ);obtain⟨W5,r5,t5,e5⟩:=eP rA hm t4 (fT .lu) trivial (jV.many .lu,fH .lu);obtain⟨W6,r6,t6,e6⟩:=eP rA hm t5 (fT .rate) trivial (jV.many .rate,fH .rate);obtain⟨W7,r7,t7,e7⟩:=eP rA hm t6 (fT .box) trivial (jV.many .box,fH .box);obtain⟨W8,r8,t8,e8⟩:=eP rA hm t7 (fT .note) trivial (jV.many .note,fH .note);obtain⟨W9,r9,t9,e9⟩:=eP rA hm t8 (fT .void) trivial (jV.many .void,fH .void);obtain⟨MN,r10,t10,e10⟩:=eP rA hm t9 (fT .start) trivial (jV.many .start,fH .start);obtain⟨XD,r11,t11,e11⟩:=eP rA hm t10 (fT .bJ) trivial (jV.many .bJ,fH .bJ);obtain⟨QH,r12,t12,e12⟩:=eP rA hm t11 (fT .turn) trivial (jV.many .turn,fH .turn);obtain⟨W13,r13,t13,e13⟩:=eP rA hm t12 (fT .nK) trivial (jV.many .nK,fH .nK);obtain⟨Mo,r14,t14,e14⟩:=eP rA hm t13 (fT .Ar) trivial (jV.many .Ar,fH .Ar);obtain⟨Pf,r15,t15,e15⟩:=eP rA hm t14 (fT .unread) trivial (jV.many .unread,fH .unread);obtain⟨W16,r16,t16,e16⟩:=eP rA hm t15 (fT .heap) trivial (jV.many .heap,fH .heap);obtain⟨Pe,r17,t17,e17⟩:=eP rA hm t16 (fT .strong) trivial (jV.many .strong,fH .strong);obtain⟨W18,r18,t18,e18⟩:=eP rA hm t17 (fT .nI) trivial (jV.many .nI,fH .nI);obtain⟨W19,r19,t19,e19⟩:=eP rA hm t18 (fT .fill) trivial (jV.many .fill,fH .fill);obtain⟨W20,r20,t20,e20⟩:=eP rA hm t19 (fT .Ac) trivial (jV.many .Ac,fH .Ac);obtain⟨W21,r21,t21,e21⟩:=eP rA hm t20 (fT .sK) trivial (jV.many .sK,fH .sK);rw[Yq] at t21;have hE:Ext [w.heap.size] (w.alloc (.map #[] 0)) W21:=(e1.trans (e2.trans (e3.trans (e4.trans (e5.trans (e6.trans (e7.trans (e8.trans (e9.trans (e10.trans (e11.trans (e12.trans (e13.trans (e14.trans (e15.trans (e16.trans (e17.trans (e18.trans (e19.trans (e20.trans e21))))))))))))))))))))
 have HB:=aa (show Ϙ w W21 from(ai (aF _ _) _).trans ⟨hE.os,hE.tape,hE.output,hE.size,fun b hb=>hE.block b ϗ ϗ⟩);have HT:=aa t21;have HE:Hid (w.heap.size<=w.heap.size):=aa (ah _);clear h0 hE hm t1 t2 t3 t4 t5 t6 t7 t8 t9 t10 t11 t12 t13 t14 t15 t16 t17 t18 t19 t20 t21 e1 e2 e3 e4 e5 e6 e7 e8 e9 e10 e11 e12 e13 e14 e15 e16 e17 e18 e19 e20 e21;simp only[fT,jV.word,jV.many,fH,Q6,wev,iv,Int.cast_ofNat_Int,Int.natCast_zero,Int.natCast_one] at r1 r2 r3 r4 r5 r6 r7 r8 r9 r10 r11 r12 r13 r14 r15 r16 r17 r18 r19 r20 r21;go_enter Tryz.func98,Tryz.ntmps98;go_wp2;go_returns;exact⟨_,by simp,ah _,HT.o,HB.o⟩
theorem Mh {w:World} {b n:Nat} {l:List Bool} {cs:Array Value} {t:TypeId} (h:w.heap[b]? =some (.cells cs t (0,0))) (hc:cs.toList=dD l) (hn:n=l.length) (hm:l.length<=100):zV w (.slice (some ⟨b,0,none⟩) n n) l:=by
 subst hn;refine⟨by simp[dD],_,_,rfl,ah _,by simp only[maxLen];omega,(fun h=>by cases h),fun a ha=>?_⟩;cases ha;refine⟨rfl,?_⟩;rw[<-hc];exact vR h
theorem dJ (Δ:Int) (l:List Bool) (w:World) (hm:l.length<=100) (cs:Array Value) (hc:cs.toList=dD l) (t:TypeId) (n:Nat) (hn:n=l.length):
 Ϝ 99 #[iv Δ,.slice (some ⟨w.heap.size,0,none⟩) n n] (w.alloc (.cells cs t)) (Pk Δ (l.contains true) w):=by
 refine(Nn Δ l _ _ (Mh (av _ _) hc hn hm)).mono ?_;rintro e w' ⟨hb,h⟩;exact⟨aV (ai (aF _ _) _) hb,h⟩
theorem oH (a b:Int) (w:World):Ϝ 241 #[iv a,iv b] w (Pk 3 (decide (b<=a)) w):=by
 go_enter Tryz.func241,Tryz.ntmps241;go_wp2_with fail
 refine(dJ 3 [decide (b<=a)] w ϕ _ (by simp[dD]) _ _ rfl).mono ?_;exact zaM
theorem gY (a b:Int) (w:World):Ϝ 243 #[iv a,iv b] w (Pk 7 (decide (b<=a)) w):=by
 go_enter Tryz.func243,Tryz.ntmps243;go_wp2_with fail
 refine(dJ 7 [decide (b<=a)] w ϕ _ (by simp[dD]) _ _ rfl).mono ?_;exact zaM
theorem CV (a b m:Int) (w:World):Ϝ 296 #[iv a,iv b,iv m] w (Pk 2 (decide (b<a) ||decide (m<b)) w):=by
 go_enter Tryz.func296,Tryz.ntmps296;go_wp2_with fail
 refine(dJ 2 [decide (b<a),decide (m<b)] w ϕ _ (by simp[dD]) _ _ rfl).mono ?_;exact zaM
theorem xY (a b m k:Int) (w:World) (hx:0<=a/\a<=100000/\0<=k/\k<=100000):Ϝ 247 #[iv a,iv b,iv m,iv k] w (Pk 2 (decide (b<a) ||(decide (m<b) ||decide (a+k<b))) w):=by
 go_enter Tryz.func247,Tryz.ntmps247;go_wp2_with fail
 refine(dJ 2 [decide (b<a),decide (m<b),decide (a+k<b)] w ϕ _ (by simp[dD]) _ _ rfl).mono ?_;exact zaM
structure Row where
 t:TypeId
 size:Nat
 v:Value
 n:Nat
 xs:List Value
structure vD (N:Nat) (w:World) (wb:Nat) (R:List Row):Prop where
 own: ∀(i:Nat) (r:Row),R[i]? =some r->w.ownsRow N r.t r.size r.v r.n r.xs
 apart: ∀(i j:Nat) (a b:Row),R[i]? =some a->R[j]? =some b->i≠j->a.v.ownBlock=none∨a.v.ownBlock≠b.v.ownBlock
 off: ∀(i:Nat) (r:Row),R[i]? =some r->r.v.ownBlock≠some wb
 lt:wb<w.heap.size
 base:N<=wb
theorem bT {w W:World} {N:Nat} {t:TypeId} {size:Nat} {v:Value} {n:Nat} {xs:List Value} (h:w.ownsRow N t size v n xs) {Ms:List Nat} (hE:Ext Ms w W) (hM: ∀b,v.ownBlock=some b->b∉Ms):W.ownsRow N t size v n xs:=by
 obtain⟨h1,h2|⟨g,c,cs,rfl,hb,hc,h3⟩⟩:=h
 ·exact⟨h1,.inl h2⟩
 ·exact⟨h1,.inr ⟨g,c,cs,rfl,hb,(hE.block g (aN.1 hc).1 (hM g rfl)).trans hc,h3⟩⟩
theorem vD.keep {N:Nat} {w W:World} {wb:Nat} {R:List Row} (h:vD N w wb R) {Ms:List Nat} (hE:Ext Ms w W) (hM: ∀m∈Ms,m=wb∨m<N):vD N W wb R where
 own i r hr:=bT (h.own i r hr) hE (fun b hb hm=>by
  rcases hM b hm with rfl|h1
  ·exact h.off i r hr hb
  ·have:=((h.own i r hr).lt b hb).1;omega)
 apart:=h.apart
 off:=h.off
 lt:=eF h.lt hE.size
 base:=h.base
theorem vD.put {N:Nat} {w W:World} {wb:Nat} {R:List Row} (h:vD N w wb R) {i:Nat} {r:Row} (hr:R[i]? =some r) (r':Row) {Ms:List Nat} (hE:Ext Ms w W) (hM: ∀m∈Ms,m=wb∨m<N∨r.v.ownBlock=some m)
 (ho:W.ownsRow N r'.t r'.size r'.v r'.n r'.xs) (hb:r'.v.ownBlock=r.v.ownBlock∨r'.v.ownBlock=none∨ ∃k,r'.v.ownBlock=some k/\w.heap.size<=k):vD N W wb (R.set i r'):=by
 have uM:=(iy.1 hr).1;have key: ∀(j:Nat) (x:Row),(R.set i r')[j]? =some x->(j=i/\x=r')∨(j≠i/\R[j]? =some x):=by
  intro j x hx;rw[List.getElem?_set] at hx;by_cases e:i=j
  ·subst e;rw[aG rfl,aG uM] at hx;exact .inl ⟨rfl,(iJ hx).symm⟩
  ·rw[ak e] at hx;exact .inr ⟨fun h=>e h.symm,hx⟩
 have new: ∀(j:Nat) (x:Row),R[j]? =some x->j≠i->x.v.ownBlock=none∨x.v.ownBlock≠r'.v.ownBlock:=by
  intro j x hx hj;rcases hb with hb|hb|⟨k,hk,hs⟩
  ·rw[hb];exact h.apart j i x r hx hr hj
  ·rw[hb];cases x.v.ownBlock with
   |none=>exact .inl rfl
   |some b=>exact .inr ϕ
  ·rw[hk];cases hxb:x.v.ownBlock with
   |none=>exact .inl rfl
   |some b=>
    refine .inr fun e=>?_;obtain rfl:=iJ e;have:=((h.own j x hx).lt b hxb).2;omega
 refine⟨fun j x hx=>?_,fun j k a b ha hbb hjk=>?_,fun j x hx=>?_,eF h.lt hE.size,h.base⟩
 ·rcases key j x hx with⟨rfl,rfl⟩|⟨hj,hx'⟩
  ·exact ho
  ·refine bT (h.own j x hx') hE (fun b hbb hm=>?_);rcases hM b hm with rfl|h1|h1
   ·exact h.off j x hx' hbb
   ·have:=((h.own j x hx').lt b hbb).1;omega
   ·rcases h.apart j i x r hx' hr hj with h2|h2
    ·rw[h2] at hbb;cases hbb
    ·exact h2 (hbb.trans h1.symm)
 ·rcases key j a ha with⟨rfl,rfl⟩|⟨hj,ha'⟩
  ·rcases key k b hbb with⟨rfl,rfl⟩|⟨hk,hb'⟩
   ·exact absurd rfl hjk
   ·rcases new k b hb' hk with h1|h1
    ·rcases hq:a.v.ownBlock with _|q
     ·exact .inl rfl
     ·exact .inr (by rw[h1];simp)
    ·exact .inr fun e=>h1 e.symm
  ·rcases key k b hbb with⟨rfl,rfl⟩|⟨hk,hb'⟩
   ·exact new j a ha' hj
   ·exact h.apart j k a b ha' hb' hjk
 ·rcases key j x hx with⟨rfl,rfl⟩|⟨hj,hx'⟩
  ·rcases hb with hb|hb|⟨k,hk,hs⟩
   ·rw[hb];exact h.off _ r hr
   ·rw[hb];simp
   ·rw[hk];intro e;obtain rfl:=iJ e;have:=h.lt;omega
  ·exact h.off j x hx'
theorem vD.push {N:Nat} {w W:World} {wb:Nat} {R:List Row} (h:vD N w wb R) (r':Row) {Ms:List Nat} (hE:Ext Ms w W) (hM: ∀m∈Ms,m=wb∨m<N)
 (ho:W.ownsRow N r'.t r'.size r'.v r'.n r'.xs) (hb:r'.v.ownBlock=none∨ ∃k,r'.v.ownBlock=some k/\w.heap.size<=k):vD N W wb (R++[r']):=by
 have hk:=h.keep hE hM;have key: ∀(j:Nat) (x:Row),(R++[r'])[j]? =some x->(R[j]? =some x)∨(j=R.length/\x=r'):=by
  intro j x hx;by_cases hj:j<R.length
  ·rw[sD hj] at hx;exact .inl hx
  ·rw[mD ϑ] at hx;have h0:=(iy.1 hx).1;simp only[List.length_cons,List.length_nil] at h0;have:j-R.length=0:=ϑ;rw[this] at hx;simp only[List.getElem?_cons_zero,Option.some.injEq] at hx;exact .inr ⟨by omega,hx.symm⟩
 have new: ∀(j:Nat) (x:Row),R[j]? =some x->(x.v.ownBlock=none∨x.v.ownBlock≠r'.v.ownBlock)/\(r'.v.ownBlock=none∨r'.v.ownBlock≠x.v.ownBlock):=by
  intro j x hx;rcases hb with hb|⟨k,hk,hs⟩
  ·rw[hb];refine⟨?_,.inl rfl⟩;cases x.v.ownBlock with
   |none=>exact .inl rfl
   |some b=>exact .inr ϕ
  ·have:x.v.ownBlock≠some k:=fun e=>by have:=((h.own j x hx).lt k e).2;omega
   rw[hk];exact⟨.inr this,.inr fun e=>this e.symm⟩
 refine⟨fun j x hx=>?_,fun j k a b ha hbb hjk=>?_,fun j x hx=>?_,hk.lt,h.base⟩
 ·rcases key j x hx with h1|⟨_,rfl⟩
  ·exact hk.own j x h1
  ·exact ho
 ·rcases key j a ha with h1|⟨h1,rfl⟩ <;>rcases key k b hbb with h2|⟨h2,rfl⟩
  ·exact h.apart j k a b h1 h2 hjk
  ·exact(new j a h1).1
  ·exact(new k b h2).2
  ·omega
 ·rcases key j x hx with h1|⟨_,rfl⟩
  ·exact h.off j x h1
  ·rcases hb with hb|⟨k,hk,hs⟩
   ·rw[hb];simp
   ·rw[hk];intro e;obtain rfl:=iJ e;have:=h.lt;omega
structure SV where
 sG:Value
 Ky:Value
 bJ:Value
 Ab:Value
 Al:Value
 hps:Value
 cks:Value
 trs:Value
abbrev bG (s:iE) (V:SV):Array Value:=
 #[iv s.led.field.rows,iv s.led.field.aJ,iv s.led.field.left.1,iv s.led.field.left.2,V.sG,iv s.led.rate,iv s.led.box.1,iv s.led.box.2,V.Ky,
   iv s.heap.last,iv s.heap.size,iv s.heap.aZ,iv s.heap.die,iv s.heap.ny,iv s.heap.start.1,iv s.heap.start.2,V.bJ,V.Ab,V.Al,V.hps,V.cks,V.trs]
def xw (e:KE):Row:=⟨3,1,e.1,e.2.length,ag e.2⟩
def gB (s:iE) (V:SV) (es:List KE):List Row:=
 [⟨186,5,V.sG,s.led.field.aj.length,bP s.led.field.aj⟩,⟨188,3,V.Ky,s.led.notes.length,aK s.led.notes⟩,
   ⟨50,2,V.bJ,s.heap.bJ.length,aB s.heap.bJ⟩,⟨3,1,V.Ab,s.heap.turns.length,ag s.heap.turns⟩,⟨190,3,V.Al,s.heap.readings.length,aK s.heap.readings⟩,
   ⟨129,2,V.hps,s.cK.heaps.length,aB s.cK.heaps⟩,⟨52,1,V.cks,es.length,dW es⟩,⟨192,4,V.trs,s.cK.aI.length,dI s.cK.aI⟩]++es.map xw
structure iW (N:Nat) (w:World) (wb:Nat) (s:iE) (V:SV) (es:List KE):Prop where
 blk:w.heap[wb]? =some (.cells (bG s V) 228 (0,0))
 rows:vD N w wb (gB s V es)
 es:es.map (·.2)=s.cK.aQ
def qc (N:Nat) (w:World) (ns:Value) (l:List Int):Prop:= ∃b c,ns= .slice (some ⟨b,0,none⟩) l.length c/\b<N/\ ∀(j:Nat) (h:j<l.length),w.cell? ⟨b,j,none⟩=some (iv l[j])
def pJ (N:Nat) (wb:Nat) (x:Int×iE) (w:World) (e:Ending) (w':World):Prop:=
 Below N w w'/\((x.1=0/\e= .returned (.tuple #[])/\ ∃V es,iW N w' wb x.2 V es)∨(x.1≠0/\e= .panicked (jm x.1)))
theorem dR {N:Nat} {w:World} {wb:Nat} {s:iE} {V:SV} {es:List KE} (h:iW N w wb s V es):N<=w.heap.size:=by have:=h.rows.lt;have:=h.rows.base;omega
theorem iW.below {N:Nat} {w W:World} {wb:Nat} {s:iE} {V:SV} {es:List KE} (h:iW N w wb s V es) (hb:Ϙ w W):iW N W wb s V es:=
 ⟨(hb.block _ h.rows.lt).trans h.blk,h.rows.keep (Ms:=[]) (Ext.ax hb) ϕ,h.es⟩
theorem iW.store {N:Nat} {w W:World} {wb:Nat} {s s':iE} {V:SV} {es:List KE} (h:iW N w wb s V es) (hE:Ext [wb] w W) (hb:W.heap[wb]? =some (.cells (bG s' V) 228 (0,0))) (hr:gB s' V es=gB s V es) (hc:s'.cK.aQ=s.cK.aQ):iW N W wb s' V es:=
 ⟨hb,by rw[hr];exact h.rows.keep hE (fun m hm=> .inl (by simpa using hm)),by rw[hc];exact h.es⟩
theorem fB {W:World} {b off:Nat} {v:Value}:Ext [b] W (W.setCell ⟨b,off,none⟩ v):=
 ⟨rfl,rfl,rfl,by simp[World.setCell],fun k _ hm=>heap_setCell_other W _ k v (by simpa using hm)⟩
theorem bQ (a b m:Int):(IA a b m=false)= ¬(a<=b/\b<=m):=by
 unfold IA;by_cases h1:a<=b <;>by_cases h2:b<=m <;>simp[h1,h2]
theorem bR (a b m k:Int):(IP a b m k=false)= ¬(a<=b/\b<=m/\b<=a+k):=by
 unfold IP;by_cases h1:a<=b <;>by_cases h2:b<=m <;>by_cases h3:b<=a+k <;>simp[h1,h2,h3]
def ac4 (c:Prop) (v:Value) (w:World) (e:Ending) (w':World):Prop:=Ϙ w w'/\((c/\e= .returned v)∨(¬c/\e= .panicked (jm 2)))
theorem um {N wb:Nat} {x:Int×iE} {w w':World} {c:Int} (h3:Below N w w') (hx:x.1=c) (hc:c≠0):pJ N wb x w (.panicked (jm c)) w':=⟨h3,.inr ⟨by rw[hx];exact hc,by rw[hx]⟩⟩
theorem tq (a b:Int) (w:World):Ϝ 245 #[iv a,iv b] w (ac4 (a<=b/\b<=2000) (rv (a,b)) w):=by
 go_enter Tryz.func245,Tryz.ntmps245;go_wp2_with fail
 refine(CV _ _ _ _).mono ?_;rintro e w1 ⟨hb,⟨hc,rfl⟩|⟨hc,rfl⟩⟩
 ·simp only[Bool.or_eq_false_iff,decide_eq_false_iff_not] at hc;have HB:=aa hb;obtain⟨c0,f0,l0⟩:=ae ((hb.block w.heap.size ϕ).trans (av _ _));have HC:=aa hc;have c00:=c0 0;have c01:=c0 1;simp at c00 c01;have d0:(w1.setCell ⟨w.heap.size,0,none⟩ (iv a)).cell? ⟨w.heap.size,0,none⟩=some (iv a):=World.cell?_setCell_same _ _ _ c00;have d1:((w1.setCell ⟨w.heap.size,0,none⟩ (iv a)).setCell ⟨w.heap.size,1,none⟩ (iv b)).cell? ⟨w.heap.size,1,none⟩=some (iv b):=World.cell?_setCell_same _ _ _ ((World.cell?_setCell_other _ _ _ _ ϕ).trans c01);clear hb hc c0;go_wp2_with fail
  (try simp only[Exit.inBlock,Exit.then])
  refine bodyPost_ret (v:=rv (a,b)) (by simp[results,Tryz.results245,go_sem,d0,d1]) rfl ?_;exact zbB
 ·exact zbG
theorem rR (a b:Int) (wb:Nat) (s:iE) (V:SV) (w:World) (ZX:w.heap[wb]? =some (.cells (bG s V) 228 (0,0))):Ϝ 242 #[.pointer (some ⟨wb,0,none⟩),iv a,iv b] w (ac4 (a<=b/\b<=s.led.field.rows) (rv (a,b)) w):=by
 obtain⟨k0,g0,j0⟩:=ae ZX;clear ZX;go_enter Tryz.func242,Tryz.ntmps242;go_wp2_with fail
 refine(CV _ _ _ _).mono ?_;rintro e w1 ⟨hb,⟨hc,rfl⟩|⟨hc,rfl⟩⟩
 ·simp only[Bool.or_eq_false_iff,decide_eq_false_iff_not] at hc;have HB:=aa hb;obtain⟨c0,f0,l0⟩:=ae ((hb.block w.heap.size ϕ).trans (av _ _));have HC:=aa hc;have c00:=c0 0;have c01:=c0 1;simp at c00 c01;have d0:(w1.setCell ⟨w.heap.size,0,none⟩ (iv a)).cell? ⟨w.heap.size,0,none⟩=some (iv a):=World.cell?_setCell_same _ _ _ c00;have d1:((w1.setCell ⟨w.heap.size,0,none⟩ (iv a)).setCell ⟨w.heap.size,1,none⟩ (iv b)).cell? ⟨w.heap.size,1,none⟩=some (iv b):=World.cell?_setCell_same _ _ _ ((World.cell?_setCell_other _ _ _ _ ϕ).trans c01);clear hb hc c0 k0 g0 j0;go_wp2_with fail
  (try simp only[Exit.inBlock,Exit.then])
  refine bodyPost_ret (v:=rv (a,b)) (by simp[results,Tryz.results242,go_sem,d0,d1]) rfl ?_;exact zbB
 ·exact zbG
theorem ui (a b k:Int) (w:World) (hx:0<=a/\a<=100000/\0<=k/\k<=100000):Ϝ 252 #[iv a,iv b,iv k] w (ac4 (a<=b/\b<=100/\b<=a+k) (rv (a,b)) w):=by
 go_enter Tryz.func252,Tryz.ntmps252;go_wp2_with fail
 refine(xY _ _ _ _ _ hx).mono ?_;rintro e w1 ⟨hb,⟨hc,rfl⟩|⟨hc,rfl⟩⟩
 ·simp only[Bool.or_eq_false_iff,decide_eq_false_iff_not] at hc;have HB:=aa hb;obtain⟨c0,f0,l0⟩:=ae ((hb.block w.heap.size ϕ).trans (av _ _));have HC:=aa hc;have c00:=c0 0;have c01:=c0 1;simp at c00 c01;have d0:(w1.setCell ⟨w.heap.size,0,none⟩ (iv a)).cell? ⟨w.heap.size,0,none⟩=some (iv a):=World.cell?_setCell_same _ _ _ c00;have d1:((w1.setCell ⟨w.heap.size,0,none⟩ (iv a)).setCell ⟨w.heap.size,1,none⟩ (iv b)).cell? ⟨w.heap.size,1,none⟩=some (iv b):=World.cell?_setCell_same _ _ _ ((World.cell?_setCell_other _ _ _ _ ϕ).trans c01);clear hb hc c0;go_wp2_with fail
  (try simp only[Exit.inBlock,Exit.then])
  refine bodyPost_ret (v:=rv (a,b)) (by simp[results,Tryz.results252,go_sem,d0,d1]) rfl ?_;exact zbB
 ·exact zbG
theorem wz (a:Int) (wb:Nat) (s:iE) (V:SV) (w:World) (ZX:w.heap[wb]? =some (.cells (bG s V) 228 (0,0))) (hl:s.heap.last=4):Ϝ 248 #[.pointer (some ⟨wb,0,none⟩),iv a] w (Pk 7 (decide (4<a)) w):=by
 obtain⟨k0,g0,j0⟩:=ae ZX;clear ZX;go_enter Tryz.func248,Tryz.ntmps248;go_wp2_with fail
 refine(gY _ _ _).mono ?_;rintro e w1 ⟨hb,⟨hc,rfl⟩|⟨hc,rfl⟩⟩
 ·(try go_wp2_with fail)
  go_end0
  exact⟨hb,.inl ⟨by simp at hc⊢;omega,rfl⟩⟩
 ·exact⟨rfl,hb,.inr ⟨by simp at hc⊢;omega,rfl⟩⟩
theorem YL (N:Nat) (w:World) (wb:Nat) (s:iE) (V:SV) (es:List KE) (ns:Value) (hO:iW N w wb s V es) (hG:eB s):Ϝ 153 #[.pointer (some ⟨wb,0,none⟩),ns] w (pJ N wb (ib s .row []) w):=by
 have HO:=aa hO;have hr:=hG.rows;obtain⟨c0,f0,l0⟩:=ae hO.blk;clear hO hG;go_enter Tryz.func153,Tryz.ntmps153;go_wp2_with fail
 refine(oH _ _ _).mono ?_;rintro e w1 ⟨hb,⟨hc,rfl⟩|⟨hc,rfl⟩⟩
 ·obtain⟨c1,f1,l1⟩:=ae ((hb.block _ l0).trans HO.o.blk);have HB:=aa hb;clear hb c0 f0;have uM: ¬5<=s.led.field.rows:=by simpa using hc
  have hlt':s.led.field.rows<5:=ϑ;clear hc;go_wp2_with fail
  go_end0
  have yu:=HO.o.below HB.o;simp only[ib];rw[ak ϑ];refine⟨(HB.o.mono (dR HO.o)).setCell HO.o.rows.base _,.inl ⟨rfl,rfl,V,es,?_⟩⟩;exact yu.store fB (aA yu.blk _) rfl rfl
 ·have hge:5<=s.led.field.rows:=by simpa using hc
  simp only[ib];rw[aG hge];exact⟨rfl,hb.mono (dR HO.o),.inr ⟨by simp,rfl⟩⟩
theorem UY (N:Nat) (w:World) (wb:Nat) (s:iE) (V:SV) (es:List KE) (ns:Value) (x:Int) (hO:iW N w wb s V es) (hn:qc N w ns [x]):Ϝ 158 #[.pointer (some ⟨wb,0,none⟩),ns] w (pJ N wb (ib s .rate [x]) w):=by
 obtain⟨vt,vn,vw,vu,vr,vh,vk,vs⟩:=V;have HO:=aa hO;have fG:=dR hO;obtain⟨b,c,rfl,hbN,hcs⟩:=hn;have lb:b<w.heap.size:=ϑ;have lw:=hO.rows.lt;have uf:=hO.rows.base;have HW:Hid (∀W,Below N w W->b<W.heap.size/\ ∀(j:Nat) (h:j<[x].length),W.cell? ⟨b,j,none⟩=some (iv [x][j])):=aa (fun W hB=>⟨by have:=hB.size;omega,fun j h=>(gX (hB.block b hbN)).trans (hcs j h)⟩);obtain⟨c0,f0,l0⟩:=ae hO.blk;have mO:=hcs 0 ϕ;simp only[au] at mO;have Α:Hid (Ϙ w w):=aa (aF _ _);clear hO hcs;go_enter Tryz.func158,Tryz.ntmps158;go_wp2_with fail
 refine zg 8 [] none [] ?_;simp only[zt];repeat ((first|refine zd ?_|refine zk ?_);simp only[zp])
 intro W1 hE hF;have R9:=aa (aV Α.o hE.below);clear hE hF c0 f0 mO;obtain⟨c1,f1,l1⟩:=ae ((R9.o.block _ lw).trans HO.o.blk);obtain⟨uD,Y8⟩:=HW.o W1 (R9.o.mono fG);have Φ:=Y8 0 ϕ;simp only[au] at Φ;clear Y8;go_wp2_with fail
 refine(dJ 2 [x==0,decide (50<x)] W1 ϕ _ (by simp[dD]) _ _ rfl).mono ?_;rintro e W2 ⟨hb,⟨hc,rfl⟩|⟨hc,rfl⟩⟩;rotate_left
 ·simp at hc;exact zaf
 simp at hc;have Uy:=aa (aV R9.o hb);have iN:=aa hc;clear hb hc c1 f1 uD Φ;obtain⟨c2,f2,l2⟩:=ae ((Uy.o.block _ lw).trans HO.o.blk);obtain⟨vF,γ⟩:=HW.o W2 (Uy.o.mono fG);have n20:=γ 0 ϕ;simp only[au] at n20;clear γ;go_wp2_with fail
 go_end0
 have q0:=iN.o;simp only[ib,bQ,bR,dw];(repeat (first|rw[aG ϑ]|rw[ak ϑ]))
 have yu:=HO.o.below Uy.o;exact⟨((Uy.o.mono fG).setCell uf _),.inl ⟨rfl,rfl,_,es,yu.store (fB) (aA (yu.blk) _) rfl rfl⟩⟩
theorem ZY (N:Nat) (w:World) (wb:Nat) (s:iE) (V:SV) (es:List KE) (ns:Value) (x y:Int) (hO:iW N w wb s V es) (hn:qc N w ns [x,y]):Ϝ 159 #[.pointer (some ⟨wb,0,none⟩),ns] w (pJ N wb (ib s .box [x,y]) w):=by
 obtain⟨vt,vn,vw,vu,vr,vh,vk,vs⟩:=V;have HO:=aa hO;have fG:=dR hO;obtain⟨b,c,rfl,hbN,hcs⟩:=hn;have lb:b<w.heap.size:=ϑ;have lw:=hO.rows.lt;have uf:=hO.rows.base;have HW:Hid (∀W,Below N w W->b<W.heap.size/\ ∀(j:Nat) (h:j<[x,y].length),W.cell? ⟨b,j,none⟩=some (iv [x,y][j])):=aa (fun W hB=>⟨by have:=hB.size;omega,fun j h=>(gX (hB.block b hbN)).trans (hcs j h)⟩);obtain⟨c0,f0,l0⟩:=ae hO.blk;have mO:=hcs 0 ϕ;simp only[au] at mO;have sZ:=hcs 1 ϕ;simp only[au] at sZ;have Α:Hid (Ϙ w w):=aa (aF _ _);clear hO hcs;go_enter Tryz.func159,Tryz.ntmps159;go_wp2_with fail
 refine RX.fw (fun ps W'=> ¬(x<=y/\y<=2000)/\ps=jm 2/\Below N w W') 8 [] none [(7,⟨fun _ v=>v=rv (x,y),fun _ _ _=>(x<=y/\y<=2000)⟩)] (by rintro ps a1 Wx hdf ⟨h1,rfl,h3⟩;refine⟨hdf,um (c:=2) h3 ?_ ϖ⟩;simp only[ib,bQ,bR,dw];(repeat (first|rw[aG ϑ]|rw[ak ϑ]))) ϰ ϰ ?_
 simp only[zt];repeat (refine RX.zd ?_;simp only[zp])
 refine RX.aY _ ϱ ϱ ⟨_,rfl⟩ (fun Wq Ι hF2=>?_) (fun v Wa Wb ho hE=>ho) (fun v hv=>?_)
 ·exact zcN
 obtain rfl:v=rv (x,y):=hv;simp only[zp];intro W1 hE hF;have hc:x<=y/\y<=2000:=hF _ (aW _);have R9:=aa (aV Α.o (show Ext [] w W1 from hE).below);have iN:=aa hc;exact zaw
theorem Vx (N:Nat) (w:World) (wb:Nat) (s:iE) (V:SV) (es:List KE) (ns:Value) (x y:Int) (hO:iW N w wb s V es) (hn:qc N w ns [x,y]):Ϝ 154 #[.pointer (some ⟨wb,0,none⟩),ns] w (pJ N wb (ib s .left [x,y]) w):=by
 obtain⟨vt,vn,vw,vu,vr,vh,vk,vs⟩:=V;have HO:=aa hO;have fG:=dR hO;obtain⟨b,c,rfl,hbN,hcs⟩:=hn;have lb:b<w.heap.size:=ϑ;have lw:=hO.rows.lt;have uf:=hO.rows.base;have HW:Hid (∀W,Below N w W->b<W.heap.size/\ ∀(j:Nat) (h:j<[x,y].length),W.cell? ⟨b,j,none⟩=some (iv [x,y][j])):=aa (fun W hB=>⟨by have:=hB.size;omega,fun j h=>(gX (hB.block b hbN)).trans (hcs j h)⟩);obtain⟨c0,f0,l0⟩:=ae hO.blk;have mO:=hcs 0 ϕ;simp only[au] at mO;have sZ:=hcs 1 ϕ;simp only[au] at sZ;have Α:Hid (Ϙ w w):=aa (aF _ _);clear hO hcs;go_enter Tryz.func154,Tryz.ntmps154;go_wp2_with fail
 refine RX.fw (fun ps W'=> ¬(x<=y/\y<=s.led.field.rows)/\ps=jm 2/\Below N w W') 9 [] none [(8,⟨fun _ v=>v=rv (x,y),fun _ _ _=>(x<=y/\y<=s.led.field.rows)⟩)] (by rintro ps a1 Wx hdf ⟨h1,rfl,h3⟩;refine⟨hdf,um (c:=2) h3 ?_ ϖ⟩;simp only[ib,bQ,bR,dw];(repeat (first|rw[aG ϑ]|rw[ak ϑ]))) ϰ ϰ ?_
 simp only[zt];repeat (refine RX.zd ?_;simp only[zp])
 refine RX.aY _ ϱ ϱ ⟨_,rfl⟩ (fun Wq Ι hF2=>?_) (fun v Wa Wb ho hE=>ho) (fun v hv=>?_)
 ·have Iq:Ext [] w Wq:=Ι;refine RX.bM 242 #[.pointer (some ⟨wb,0,none⟩),iv x,iv y] (by go_simp;try rfl) ?_;refine(rR x y wb s _ Wq ((Iq.block _ lw ϕ).trans HO.o.blk)).mono ?_;exact zar
 obtain rfl:v=rv (x,y):=hv;simp only[zp];intro W1 hE hF;have hc:x<=y/\y<=s.led.field.rows:=hF _ (aW _);have R9:=aa (aV Α.o (show Ext [] w W1 from hE).below);have iN:=aa hc;exact zaw
theorem Q8 (N:Nat) (w:World) (wb:Nat) (s:iE) (V:SV) (es:List KE) (ns:Value) (x y:Int) (hO:iW N w wb s V es) (hn:qc N w ns [x,y]) (hx:0<=x/\x<=9999):Ϝ 162 #[.pointer (some ⟨wb,0,none⟩),ns] w (pJ N wb (ib s .start [x,y]) w):=by
 obtain⟨vt,vn,vw,vu,vr,vh,vk,vs⟩:=V;have HO:=aa hO;have fG:=dR hO;obtain⟨b,c,rfl,hbN,hcs⟩:=hn;have lb:b<w.heap.size:=ϑ;have lw:=hO.rows.lt;have uf:=hO.rows.base;have HW:Hid (∀W,Below N w W->b<W.heap.size/\ ∀(j:Nat) (h:j<[x,y].length),W.cell? ⟨b,j,none⟩=some (iv [x,y][j])):=aa (fun W hB=>⟨by have:=hB.size;omega,fun j h=>(gX (hB.block b hbN)).trans (hcs j h)⟩);obtain⟨c0,f0,l0⟩:=ae hO.blk;have mO:=hcs 0 ϕ;simp only[au] at mO;have sZ:=hcs 1 ϕ;simp only[au] at sZ;have Α:Hid (Ϙ w w):=aa (aF _ _);clear hO hcs;go_enter Tryz.func162,Tryz.ntmps162;go_wp2_with fail
 refine zg 6 [] none [] ?_;simp only[zt];repeat ((first|refine zd ?_|refine zk ?_);simp only[zp])
 intro W1 hE hF;have R9:=aa (aV Α.o hE.below);clear hE hF c0 f0 mO sZ;obtain⟨c1,f1,l1⟩:=ae ((R9.o.block _ lw).trans HO.o.blk);obtain⟨uD,Y8⟩:=HW.o W1 (R9.o.mono fG);have Φ:=Y8 0 ϕ;simp only[au] at Φ;have n11:=Y8 1 ϕ;simp only[au] at n11;clear Y8;go_wp2_with fail
 refine(xY _ _ _ _ _ ϑ).mono ?_;rintro e W2 ⟨hb,⟨hc,rfl⟩|⟨hc,rfl⟩⟩;rotate_left
 ·simp at hc;exact zaf
 simp at hc;have Uy:=aa (aV R9.o hb);have iN:=aa hc;clear hb hc c1 f1 uD Φ n11;obtain⟨c2,f2,l2⟩:=ae ((Uy.o.block _ lw).trans HO.o.blk);obtain⟨vF,γ⟩:=HW.o W2 (Uy.o.mono fG);have n20:=γ 0 ϕ;simp only[au] at n20;have n21:=γ 1 ϕ;simp only[au] at n21;clear γ;go_wp2_with fail
 refine zg 8 [] none [] ?_;simp only[zt];repeat ((first|refine zd ?_|refine zk ?_);simp only[zp])
 intro W3 hE hF;have ζ:=aa (aV Uy.o hE.below);clear hE hF c2 f2 vF n20 n21;obtain⟨c3,f3,l3⟩:=ae ((ζ.o.block _ lw).trans HO.o.blk);obtain⟨GM,gT⟩:=HW.o W3 (ζ.o.mono fG);have n30:=gT 0 ϕ;simp only[au] at n30;have n31:=gT 1 ϕ;simp only[au] at n31;clear gT;go_wp2_with fail
 go_end0
 have q0:=iN.o;simp only[ib,bQ,bR,dw];(repeat (first|rw[aG ϑ]|rw[ak ϑ]))
 have yu:=HO.o.below ζ.o;exact⟨(((ζ.o.mono fG).setCell uf _).setCell uf _),.inl ⟨rfl,rfl,_,es,yu.store ((fB).trans fB) (aA (aA (yu.blk) _) _) rfl rfl⟩⟩
theorem iW.put {N:Nat} {w W:World} {wb:Nat} {s s':iE} {V V':SV} {es Ο:List KE} (h:iW N w wb s V es) {i:Nat} {r:Row} (hr:(gB s V es)[i]? =some r) (r':Row) {Ms:List Nat} (hE:Ext Ms w W) (hM: ∀m∈Ms,r.v.ownBlock=some m)
 (ho:W.ownsRow N r'.t r'.size r'.v r'.n r'.xs) (hb:r'.v.ownBlock=r.v.ownBlock∨ ∃k,r'.v.ownBlock=some k/\w.heap.size<=k) {off:Nat} {u:Value} (ZX:(W.setCell ⟨wb,off,none⟩ u).heap[wb]? =some (.cells (bG s' V') 228 (0,0)))
 (hrows:gB s' V' Ο=(gB s V es).set i r') (hes:Ο.map (·.2)=s'.cK.aQ):iW N (W.setCell ⟨wb,off,none⟩ u) wb s' V' Ο:=by
 refine⟨ZX,?_,hes⟩;rw[hrows];have h1:=h.rows.put hr r' hE (fun m hm=> .inr (.inr (hM m hm))) ho (hb.imp id .inr);exact h1.keep fB (fun m hm=> .inl (by simpa using hm))
theorem aR {w:World} {base:Nat} {e:TypeId} {size:Nat} {v:Value} {n:Nat} {xs:List Value} (h:w.ownsRow base e size v n xs): ∃o c,v= .slice o n c:=by
 obtain⟨h1,⟨rfl,rfl⟩|⟨g,c,cs,rfl,h3⟩⟩:=h
 ·exact⟨none,0,rfl⟩
 ·exact⟨_,_,rfl⟩
theorem C8 (x y z:Int): ∀u∈[iv x,iv y,iv z],u.oneCell'=true:=by simp[Value.oneCell']
theorem Ku (x y z p q:Int): ∀u∈[iv x,iv y,iv z,iv p,iv q],u.oneCell'=true:=by simp[Value.oneCell']
theorem YS (x y z:Int): ∀u∈[Value.bool true,iv x,iv y,iv z],u.oneCell'=true:=by simp[Value.oneCell']
theorem Vd (x y:Int): ∀u∈[iv x,iv y],u.oneCell'=true:=by simp[Value.oneCell']
theorem one_one (x:Int): ∀u∈[iv x],u.oneCell'=true:=by simp[Value.oneCell']
theorem UF:fU Tryz.prog 43 186 (.agg #[iv 0,iv 0,iv 0,iv 0,iv 0]) 5 40:=⟨Tryz.underlying43,by kernel_rfl,rfl,by omega⟩
theorem Yw:fU Tryz.prog 47 188 (.agg #[iv 0,iv 0,iv 0]) 3 24:=⟨Tryz.underlying47,by kernel_rfl,rfl,by omega⟩
theorem ad7:fU Tryz.prog 56 129 (rv (0,0)) 2 16:=⟨Tryz.underlying56,by kernel_rfl,rfl,by omega⟩
theorem ad9:fU Tryz.prog 57 52 (.slice none 0 0) 1 24:=⟨Tryz.underlying57,by kernel_rfl,rfl,by omega⟩
theorem Yu:fU Tryz.prog 58 192 (.agg #[.bool false,iv 0,iv 0,iv 0]) 4 32:=⟨Tryz.underlying58,by kernel_rfl,rfl,by omega⟩
theorem Yv:fU Tryz.prog 53 190 (.agg #[iv 0,iv 0,iv 0]) 3 24:=⟨Tryz.underlying53,by kernel_rfl,rfl,by omega⟩
theorem VE (N:Nat) (w:World) (wb:Nat) (s:iE) (V:SV) (es:List KE) (ns:Value) (x y z:Int) (hO:iW N w wb s V es) (hn:qc N w ns [x,y,z]) (hG:eB s):Ϝ 166 #[.pointer (some ⟨wb,0,none⟩),ns] w (pJ N wb (ib s .Ar [x,y,z]) w):=by
 obtain⟨vt,vn,vw,vu,vr,vh,vk,vs⟩:=V;obtain⟨o,cc,rfl⟩: ∃o c,vr= .slice o s.heap.readings.length c:=aR (n:=s.heap.readings.length) (hO.rows.own 4 _ rfl);have HO:=aa hO;have fG:=dR hO;obtain⟨b,c,rfl,hbN,hcs⟩:=hn;have lb:b<w.heap.size:=ϑ;have lw:=hO.rows.lt;have uf:=hO.rows.base;have HW:Hid (∀W,Below N w W->b<W.heap.size/\ ∀(j:Nat) (h:j<[x,y,z].length),W.cell? ⟨b,j,none⟩=some (iv [x,y,z][j])):=aa (fun W hB=>⟨by have:=hB.size;omega,fun j h=>(gX (hB.block b hbN)).trans (hcs j h)⟩);obtain⟨c0,f0,l0⟩:=ae hO.blk;have mO:=hcs 0 ϕ;simp only[au] at mO;have sZ:=hcs 1 ϕ;simp only[au] at sZ;have Bp:=hcs 2 ϕ;simp only[au] at Bp;have R9:Hid (Ϙ w w):=aa (aF _ _);have hl4:=hG.heap.1;have I4:=hG.reads;clear hO hcs hG;go_enter Tryz.func166,Tryz.ntmps166;go_wp2_with fail
 refine(wz x wb s _ w ((R9.o.block _ lw).trans HO.o.blk) hl4).mono ?_;rintro e W1 ⟨hb,⟨hc,rfl⟩|⟨hc,rfl⟩⟩;rotate_left
 ·simp at hc;exact zaf
 simp at hc;have q0:=aa (aV R9.o hb);have pK:=aa hc;clear hb hc c0 f0 mO sZ Bp;obtain⟨c1,f1,l1⟩:=ae ((q0.o.block _ lw).trans HO.o.blk);obtain⟨uD,Y8⟩:=HW.o W1 (q0.o.mono fG);have Φ:=Y8 0 ϕ;simp only[au] at Φ;have n11:=Y8 1 ϕ;simp only[au] at n11;have n12:=Y8 2 ϕ;simp only[au] at n12;clear Y8;go_wp2_with fail
 refine zg 8 [] none [] ?_;simp only[zt];repeat ((first|refine zd ?_|refine zk ?_);simp only[zp])
 intro W2 hE hF;have ζ:=aa (aV q0.o hE.below);clear hE hF c1 f1 uD Φ n11 n12;obtain⟨c2,f2,l2⟩:=ae ((ζ.o.block _ lw).trans HO.o.blk);obtain⟨vF,γ⟩:=HW.o W2 (ζ.o.mono fG);have n20:=γ 0 ϕ;simp only[au] at n20;have n21:=γ 1 ϕ;simp only[au] at n21;have n22:=γ 2 ϕ;simp only[au] at n22;clear γ;go_wp2_with fail
 refine(dJ 2 [decide (1000<y),decide (50<z)] W2 ϕ _ (by simp[dD]) _ _ rfl).mono ?_;rintro e W3 ⟨hb,⟨hc,rfl⟩|⟨hc,rfl⟩⟩;rotate_left
 ·simp at hc;exact zah
 simp at hc;have lM:=aa (aV ζ.o hb);have wK:=aa hc;clear hb hc c2 f2 vF n20 n21 n22;obtain⟨c3,f3,l3⟩:=ae ((lM.o.block _ lw).trans HO.o.blk);obtain⟨GM,gT⟩:=HW.o W3 (lM.o.mono fG);have n30:=gT 0 ϕ;simp only[au] at n30;have n31:=gT 1 ϕ;simp only[au] at n31;have n32:=gT 2 ϕ;simp only[au] at n32;clear gT;go_wp2_with fail
 refine(oH _ _ _).mono ?_;rintro e W4 ⟨hb,⟨hc,rfl⟩|⟨hc,rfl⟩⟩;rotate_left
 ·simp at hc;exact zaj
 simp at hc;have gJ:=aa (aV lM.o hb);have iN:=aa hc;clear hb hc c3 f3 GM n30 n31 n32;obtain⟨c4,f4,l4⟩:=ae ((gJ.o.block _ lw).trans HO.o.blk);obtain⟨ML,je⟩:=HW.o W4 (gJ.o.mono fG);have n40:=je 0 ϕ;simp only[au] at n40;have n41:=je 1 ϕ;simp only[au] at n41;have n42:=je 2 ϕ;simp only[au] at n42;clear je;go_wp2_with fail
 obtain⟨Ms,η⟩: ∃Ms,Ms=(Value.slice o s.heap.readings.length cc).ownBlock.toList:=⟨_,rfl⟩;have hO4:=HO.o.below gJ.o;have Υ:wb∉Ms:=fun h=>hO4.rows.off 4 _ rfl (by rw[η] at h;exact dh.1 h);have hm2:b∉Ms:=fun h=>by have:=((hO4.rows.own 4 _ rfl).lt b (by rw[η] at h;exact dh.1 h)).1;omega
 have qh: ∀m∈Ms,m<W4.heap.size:=fun m h=>((hO4.rows.own 4 _ rfl).lt m (by rw[η] at h;exact dh.1 h)).2;have HM:=aa η;have iF:=aa hO4;clear η hO4;refine zg 19 Ms (some 18) [(17,Spec.slice W4.heap.size #[iv x,iv y,iv z] 190 1),(18,⟨fun _ v=> ∃o2 c2,v= .slice o2 (s.heap.readings.length+1) c2,fun _ v Wx=>Wx.ownsRow N 190 3 v (s.heap.readings.length+1) (aK s.heap.readings++[iv x,iv y,iv z])/\(v.ownBlock=(Value.slice o s.heap.readings.length cc).ownBlock∨ ∃q,v.ownBlock=some q/\W4.heap.size<=q)⟩)] ?_;simp only[zt];repeat ((first|refine zd ?_|refine zk ?_);simp only[zp])
 refine cB W4.heap.size _ _ 1 ϱ (ah _) ϱ qh ϕ (fun W hW=>by go_simp;try rfl) (fun b6=>?_);simp only[zp];repeat ((first|refine zd ?_|refine zk ?_);simp only[zp])
 refine aY _ ϱ ϱ (by exact⟨.slice none (s.heap.readings.length+1) 0,none,0,rfl⟩) (fun W6 hE hF=>?_) (fun v Wa Wb ho hE=>?_) (fun v hv=>?_)
 ·have Iq:Ext [] W4 W6:=hE;obtain⟨b',hb',hge,ο⟩:=hF _ (aW _) ϰ;cases hb';have VC:W6.ownsRow N 190 3 (.slice o s.heap.readings.length cc) s.heap.readings.length (aK s.heap.readings):=az (Ms:=[]) (iF.o.rows.own 4 _ rfl) Iq ϕ;have ξ:aH 3 W6 (.slice (some ⟨b6,0,none⟩) 1 1) 1 ([iv x,iv y,iv z]):=aH.bI 3 1 ο rfl ϖ;refine Does.mono (dA Yv ϱ ϱ VC ϱ ξ (C8 x y z) ϑ ϑ (by have:=Iq.size;have:=gJ.o.size;omega)) ?_;exact zat
 ·exact zaP
 obtain⟨o7,c7,rfl⟩:=hv;simp only[zp];intro W5 hE hF;obtain⟨nH,yn⟩:=hF _ (aW _);have eT:Ext Ms W4 W5:=hE;have χ:=(eT.block wb iF.o.rows.lt Υ).trans iF.o.blk;obtain⟨c5,f5,l5⟩:=ae χ;have gP:=aa (af eT (af nH (af yn χ)));have BF:Below N w W5:=(gJ.o.mono fG).trans ⟨eT.os,eT.tape,eT.output,eT.size,fun k hk=>eT.block k (by have:=gJ.o.size;omega) (fun h=>by have:=((iF.o.rows.own 4 _ rfl).lt k (by rw[HM.o] at h;exact dh.1 h)).1;omega)⟩;have nG:=aa BF;clear hE hF eT nH yn χ BF Υ hm2 qh c4 f4 ML n40 n41 n42;go_wp2_with fail
 go_end0
 have q1:=pK.o;have q2:=wK.o;have Α:=iN.o;simp only[ib,bQ,bR,dw];(repeat (first|rw[aG ϑ]|rw[ak ϑ]))
 refine⟨nG.o.setCell uf _,.inl ⟨rfl,rfl,⟨vt,vn,vw,vu,.slice o7 (s.heap.readings.length+1) c7,vh,vk,vs⟩,es,iF.o.put (i:=4) rfl ⟨190,3,.slice o7 (s.heap.readings.length+1) c7,s.heap.readings.length+1,aK s.heap.readings++[iv x,iv y,iv z]⟩ gP.o.1 (fun m hm=>by rw[HM.o] at hm;exact dh.1 hm) gP.o.2.1 gP.o.2.2.1 (aA gP.o.2.2.2 _) (by simp[gB,gI,aK]) (iF.o.es)⟩⟩
theorem Df (N:Nat) (W2:World) (wb:Nat) (s:iE) (V:SV) (es:List KE) (ns:Value) (z x y:Int) (hO:iW N W2 wb s V es) (hn:qc N W2 ns [z,x,y]) (hG:eB s):Ϝ 160 #[.pointer (some ⟨wb,0,none⟩),ns] W2 (pJ N wb (ib s .note [z,x,y]) W2):=by
 obtain⟨vt,vn,vw,vu,vr,vh,vk,vs⟩:=V;obtain⟨o,cc,rfl⟩: ∃o c,vn= .slice o s.led.notes.length c:=aR (n:=s.led.notes.length) (hO.rows.own 1 _ rfl);have HO:=aa hO;have fG:=dR hO;obtain⟨b,c,rfl,hbN,hcs⟩:=hn;have lb:b<W2.heap.size:=ϑ;have lw:=hO.rows.lt;have uf:=hO.rows.base;have HW:Hid (∀W,Below N W2 W->b<W.heap.size/\ ∀(j:Nat) (h:j<[z,x,y].length),W.cell? ⟨b,j,none⟩=some (iv [z,x,y][j])):=aa (fun W hB=>⟨by have:=hB.size;omega,fun j h=>(gX (hB.block b hbN)).trans (hcs j h)⟩);obtain⟨c0,f0,l0⟩:=ae hO.blk;have mO:=hcs 0 ϕ;simp only[au] at mO;have sZ:=hcs 1 ϕ;simp only[au] at sZ;have Bp:=hcs 2 ϕ;simp only[au] at Bp;have Uy:Hid (Ϙ W2 W2):=aa (aF _ _);have I4:=hG.notes;have hwe:=hG.aJ;clear hO hcs hG;go_enter Tryz.func160,Tryz.ntmps160;go_wp2_with fail
 refine zg 10 [] none [] ?_;simp only[zt];repeat ((first|refine zd ?_|refine zk ?_);simp only[zp])
 intro W1 hE hF;have R9:=aa (aV Uy.o hE.below);clear hE hF c0 f0 mO sZ Bp;obtain⟨c1,f1,l1⟩:=ae ((R9.o.block _ lw).trans HO.o.blk);obtain⟨uD,Y8⟩:=HW.o W1 (R9.o.mono fG);have Φ:=Y8 0 ϕ;simp only[au] at Φ;have n11:=Y8 1 ϕ;simp only[au] at n11;have n12:=Y8 2 ϕ;simp only[au] at n12;clear Y8;go_wp2_with fail
 refine(gY _ _ _).mono ?_;rintro e w ⟨hb,⟨hc,rfl⟩|⟨hc,rfl⟩⟩;rotate_left
 ·simp at hc;exact zaf
 simp at hc;have Α:=aa (aV R9.o hb);have HS2:=aa hb;have iN:=aa hc;clear hb hc c1 f1 uD Φ n11 n12;obtain⟨c2,f2,l2⟩:=ae ((Α.o.block _ lw).trans HO.o.blk);obtain⟨vF,γ⟩:=HW.o w (Α.o.mono fG);have n20:=γ 0 ϕ;simp only[au] at n20;have n21:=γ 1 ϕ;simp only[au] at n21;have n22:=γ 2 ϕ;simp only[au] at n22;clear γ;go_wp2_with fail
 refine RX.fw (fun ps W'=> ¬(x<=y/\y<=2000)/\ps=jm 2/\Below N W2 W') 12 [] none [(9,⟨fun _ v=>v=rv (x,y),fun _ _ _=>(x<=y/\y<=2000)⟩),(11,Spec.block w.heap.size #[iv 0,iv 0,iv 0] 188)] (by rintro ps a1 Wx hdf ⟨h1,rfl,h3⟩;refine⟨hdf,um (c:=2) h3 ?_ ϖ⟩;have q0:=iN.o;simp only[ib,bQ,bR,dw];(repeat (first|rw[aG ϑ]|rw[ak ϑ]))) ϰ ϰ ?_
 simp only[zt];repeat (refine RX.zd ?_;simp only[zp])
 refine RX.aY _ ϱ ϱ ⟨_,rfl⟩ (fun Wq Ι hF2=>?_) (fun v Wa Wb ho hE=>ho) (fun v hv=>?_)
 ·exact zcN
 obtain rfl:v=rv (x,y):=hv;simp only[zp];repeat (refine RX.zd ?_;simp only[zp])
 refine RX.gQ w.heap.size _ _ ϱ (ah _) ϱ ϕ ϕ (fun W hW=>by go_simp;try rfl) (fun b9=>?_);simp only[zp];intro Wb hE hF;obtain⟨b9',uF,hge,tL⟩:=hF _ (aW _);cases uF;have hc:x<=y/\y<=2000:=hF _ (jf _ (aW _));have HBb:=aa (aV Α.o (show Ext [] w Wb from hE).below);have pK:=aa hc;have oU:=aa (af (eU Α.o.size hge) tL);obtain⟨c9,f9,l9⟩:=ae tL;clear hE hF hc hge tL c2 f2 vF n20 n21 n22;go_upto_region 2 with(fail)
 refine bU fun W3 nP=>?_;have ζ:=aa (show Ϙ W2 W3 from by rw[nP];exact(((HBb.o).setCell oU.o.1 _).setCell oU.o.1 _).setCell oU.o.1 _)
 have Bb:=aa (show W3.heap[b9]? =some (.cells #[iv z,iv x,iv y] 188 (0,0)) from by rw[nP];exact aA (aA (aA (oU.o.2) _) _) _)
 have Vq:b9<W3.heap.size:=(aN.1 Bb.o).1;clear nP c9 f9 l9;obtain⟨c3,f3,l3⟩:=ae ((ζ.o.block _ lw).trans HO.o.blk);obtain⟨GM,gT⟩:=HW.o W3 (ζ.o.mono fG);have n30:=gT 0 ϕ;simp only[au] at n30;have n31:=gT 1 ϕ;simp only[au] at n31;have n32:=gT 2 ϕ;simp only[au] at n32;clear gT;go_wp2_with fail
 refine(oH _ _ _).mono ?_;rintro e W4 ⟨hb,⟨hc,rfl⟩|⟨hc,rfl⟩⟩;rotate_left
 ·exact zcQ
 simp at hc;have gJ:=aa (aV ζ.o hb);have QM:=aa hb;have wK:=aa hc;clear hb hc c3 f3 GM n30 n31 n32;obtain⟨c4,f4,l4⟩:=ae ((gJ.o.block _ lw).trans HO.o.blk);obtain⟨ML,je⟩:=HW.o W4 (gJ.o.mono fG);have n40:=je 0 ϕ;simp only[au] at n40;have n41:=je 1 ϕ;simp only[au] at n41;have n42:=je 2 ϕ;simp only[au] at n42;clear je;go_wp2_with fail
 obtain⟨Ms,η⟩: ∃Ms,Ms=(Value.slice o s.led.notes.length cc).ownBlock.toList:=⟨_,rfl⟩;have hO4:=HO.o.below gJ.o;have Υ:wb∉Ms:=fun h=>hO4.rows.off 1 _ rfl (by rw[η] at h;exact dh.1 h);have hm2:b∉Ms:=fun h=>by have:=((hO4.rows.own 1 _ rfl).lt b (by rw[η] at h;exact dh.1 h)).1;omega
 have qh: ∀m∈Ms,m<W4.heap.size:=fun m h=>((hO4.rows.own 1 _ rfl).lt m (by rw[η] at h;exact dh.1 h)).2;obtain⟨c9,f9,l9⟩:=ae ((QM.o.block _ Vq).trans Bb.o);have hm9:b9∉Ms:=fun h=>by have:=((HO.o.rows.own 1 _ rfl).lt b9 (by rw[η] at h;exact dh.1 h)).2;have:=oU.o.1;omega
 have HM:=aa η;have iF:=aa hO4;clear η hO4;refine zg 10 Ms (some 9) [(8,Spec.slice W4.heap.size #[iv z,iv x,iv y] 188 1),(9,⟨fun _ v=> ∃o2 c2,v= .slice o2 (s.led.notes.length+1) c2,fun _ v Wx=>Wx.ownsRow N 188 3 v (s.led.notes.length+1) (aK s.led.notes++[iv z,iv x,iv y])/\(v.ownBlock=(Value.slice o s.led.notes.length cc).ownBlock∨ ∃q,v.ownBlock=some q/\W4.heap.size<=q)⟩)] ?_;simp only[zt];repeat ((first|refine zd ?_|refine zk ?_);simp only[zp])
 refine cB W4.heap.size _ _ 1 ϱ (ah _) ϱ qh ϕ (fun W hW=>by go_simp;try rfl) (fun b6=>?_);simp only[zp];repeat ((first|refine zd ?_|refine zk ?_);simp only[zp])
 refine aY _ ϱ ϱ (by exact⟨.slice none (s.led.notes.length+1) 0,none,0,rfl⟩) (fun W6 hE hF=>?_) (fun v Wa Wb ho hE=>?_) (fun v hv=>?_)
 ·have Iq:Ext [] W4 W6:=hE;obtain⟨b',hb',hge,ο⟩:=hF _ (aW _) ϰ;cases hb';have VC:W6.ownsRow N 188 3 (.slice o s.led.notes.length cc) s.led.notes.length (aK s.led.notes):=az (Ms:=[]) (iF.o.rows.own 1 _ rfl) Iq ϕ;have ξ:aH 3 W6 (.slice (some ⟨b6,0,none⟩) 1 1) 1 ([iv z,iv x,iv y]):=aH.bI 3 1 ο rfl ϖ;refine Does.mono (dA Yw ϱ ϱ VC ϱ ξ (C8 z x y) ϑ ϑ (by have:=Iq.size;have:=gJ.o.size;omega)) ?_;exact zat
 ·exact zaP
 obtain⟨o7,c7,rfl⟩:=hv;simp only[zp];intro W5 hE hF;obtain⟨nH,yn⟩:=hF _ (aW _);have eT:Ext Ms W4 W5:=hE;have χ:=(eT.block wb iF.o.rows.lt Υ).trans iF.o.blk;obtain⟨c5,f5,l5⟩:=ae χ;have gP:=aa (af eT (af nH (af yn χ)));have BF:Below N W2 W5:=(gJ.o.mono fG).trans ⟨eT.os,eT.tape,eT.output,eT.size,fun k hk=>eT.block k (by have:=gJ.o.size;omega) (fun h=>by have:=((iF.o.rows.own 1 _ rfl).lt k (by rw[HM.o] at h;exact dh.1 h)).1;omega)⟩;have nG:=aa BF;clear hE hF eT nH yn χ BF Υ hm2 qh c4 f4 ML n40 n41 n42;go_wp2_with fail
 go_end0
 have q0:=iN.o;have q1:=pK.o;have q2:=wK.o;simp only[ib,bQ,bR,dw];(repeat (first|rw[aG ϑ]|rw[ak ϑ]))
 refine⟨nG.o.setCell uf _,.inl ⟨rfl,rfl,⟨vt,.slice o7 (s.led.notes.length+1) c7,vw,vu,vr,vh,vk,vs⟩,es,iF.o.put (i:=1) rfl ⟨188,3,.slice o7 (s.led.notes.length+1) c7,s.led.notes.length+1,aK s.led.notes++[iv z,iv x,iv y]⟩ gP.o.1 (fun m hm=>by rw[HM.o] at hm;exact dh.1 hm) gP.o.2.1 gP.o.2.2.1 (aA gP.o.2.2.2 _) (by simp[gB,mE,aK]) (iF.o.es)⟩⟩
theorem Io (N:Nat) (w:World) (wb:Nat) (s:iE) (V:SV) (es:List KE) (ns:Value) (x y z p q:Int) (hO:iW N w wb s V es) (hn:qc N w ns [x,y,z,p,q]) (hG:eB s) (hyz:y<z):Ϝ 155 #[.pointer (some ⟨wb,0,none⟩),ns] w (pJ N wb (ib s .tally [x,y,z,p,q]) w):=by
 obtain⟨vt,vn,vw,vu,vr,vh,vk,vs⟩:=V;obtain⟨o,cc,rfl⟩: ∃o c,vt= .slice o s.led.field.aj.length c:=aR (n:=s.led.field.aj.length) (hO.rows.own 0 _ rfl);have HO:=aa hO;have fG:=dR hO;obtain⟨b,c,rfl,hbN,hcs⟩:=hn;have lb:b<w.heap.size:=ϑ;have lw:=hO.rows.lt;have uf:=hO.rows.base;have HW:Hid (∀W,Below N w W->b<W.heap.size/\ ∀(j:Nat) (h:j<[x,y,z,p,q].length),W.cell? ⟨b,j,none⟩=some (iv [x,y,z,p,q][j])):=aa (fun W hB=>⟨by have:=hB.size;omega,fun j h=>(gX (hB.block b hbN)).trans (hcs j h)⟩);obtain⟨c0,f0,l0⟩:=ae hO.blk;have mO:=hcs 0 ϕ;simp only[au] at mO;have sZ:=hcs 1 ϕ;simp only[au] at sZ;have Bp:=hcs 2 ϕ;simp only[au] at Bp;have n03:=hcs 3 ϕ;simp only[au] at n03;have n04:=hcs 4 ϕ;simp only[au] at n04;have Α:Hid (Ϙ w w):=aa (aF _ _);have I4:=hG.Ag;have hwe:=hG.aJ;have iN:=aa hyz;clear hO hcs hG;go_enter Tryz.func155,Tryz.ntmps155;go_wp2_with fail
 refine zg 7 [] none [] ?_;simp only[zt];repeat ((first|refine zd ?_|refine zk ?_);simp only[zp])
 intro W1 hE hF;have R9:=aa (aV Α.o hE.below);clear hE hF c0 f0 mO sZ Bp n03 n04;obtain⟨c1,f1,l1⟩:=ae ((R9.o.block _ lw).trans HO.o.blk);obtain⟨uD,Y8⟩:=HW.o W1 (R9.o.mono fG);have Φ:=Y8 0 ϕ;simp only[au] at Φ;have n11:=Y8 1 ϕ;simp only[au] at n11;have n12:=Y8 2 ϕ;simp only[au] at n12;have n13:=Y8 3 ϕ;simp only[au] at n13;have n14:=Y8 4 ϕ;simp only[au] at n14;clear Y8;go_wp2_with fail
 refine(gY _ _ _).mono ?_;rintro e W2 ⟨hb,⟨hc,rfl⟩|⟨hc,rfl⟩⟩;rotate_left
 ·exact zcP
 simp at hc;have Uy:=aa (aV R9.o hb);have HS2:=aa hb;have pK:=aa hc;clear hb hc c1 f1 uD Φ n11 n12 n13 n14;obtain⟨c2,f2,l2⟩:=ae ((Uy.o.block _ lw).trans HO.o.blk);obtain⟨vF,γ⟩:=HW.o W2 (Uy.o.mono fG);have n20:=γ 0 ϕ;simp only[au] at n20;have n21:=γ 1 ϕ;simp only[au] at n21;have n22:=γ 2 ϕ;simp only[au] at n22;have n23:=γ 3 ϕ;simp only[au] at n23;have n24:=γ 4 ϕ;simp only[au] at n24;clear γ;go_wp2_with fail
 refine zg 11 [] none [] ?_;simp only[zt];repeat ((first|refine zd ?_|refine zk ?_);simp only[zp])
 intro W3 hE hF;have ζ:=aa (aV Uy.o hE.below);clear hE hF c2 f2 vF n20 n21 n22 n23 n24;obtain⟨c3,f3,l3⟩:=ae ((ζ.o.block _ lw).trans HO.o.blk);obtain⟨GM,gT⟩:=HW.o W3 (ζ.o.mono fG);have n30:=gT 0 ϕ;simp only[au] at n30;have n31:=gT 1 ϕ;simp only[au] at n31;have n32:=gT 2 ϕ;simp only[au] at n32;have n33:=gT 3 ϕ;simp only[au] at n33;have n34:=gT 4 ϕ;simp only[au] at n34;clear gT;go_wp2_with fail
 clear hyz;refine(gY _ _ _).mono ?_;rintro e W4 ⟨hb,⟨hc,rfl⟩|⟨hc,rfl⟩⟩;rotate_left
 ·exact zcQ
 simp at hc;have gJ:=aa (aV ζ.o hb);have QM:=aa hb;have wK:=aa hc;clear hb hc c3 f3 GM n30 n31 n32 n33 n34;obtain⟨c4,f4,l4⟩:=ae ((gJ.o.block _ lw).trans HO.o.blk);obtain⟨ML,je⟩:=HW.o W4 (gJ.o.mono fG);have n40:=je 0 ϕ;simp only[au] at n40;have n41:=je 1 ϕ;simp only[au] at n41;have n42:=je 2 ϕ;simp only[au] at n42;have n43:=je 3 ϕ;simp only[au] at n43;have n44:=je 4 ϕ;simp only[au] at n44;clear je;go_wp2_with fail
 refine zg 6 [] none [] ?_;simp only[zt];repeat ((first|refine zd ?_|refine zk ?_);simp only[zp])
 intro W5 hE hF;have lM:=aa (aV gJ.o hE.below);clear hE hF c4 f4 ML n40 n41 n42 n43 n44;obtain⟨c5,f5,l5⟩:=ae ((lM.o.block _ lw).trans HO.o.blk);obtain⟨lb5,rE⟩:=HW.o W5 (lM.o.mono fG);have n50:=rE 0 ϕ;simp only[au] at n50;have n51:=rE 1 ϕ;simp only[au] at n51;have n52:=rE 2 ϕ;simp only[au] at n52;have n53:=rE 3 ϕ;simp only[au] at n53;have n54:=rE 4 ϕ;simp only[au] at n54;clear rE;go_wp2_with fail
 refine(dJ 2 [decide (z<y)] W5 ϕ _ (by simp[dD]) _ _ rfl).mono ?_;rintro e W6 ⟨hb,⟨hc,rfl⟩|⟨hc,rfl⟩⟩;rotate_left
 ·simp at hc;have q0:=iN.o;have q1:=pK.o;have q2:=wK.o
  (exfalso;omega)
 simp at hc;exact zaa
theorem Ip (N:Nat) (w:World) (wb:Nat) (s:iE) (V:SV) (es:List KE) (ns:Value) (x y z p q:Int) (hO:iW N w wb s V es) (hn:qc N w ns [x,y,z,p,q]) (hG:eB s) (hyz:z<=y):Ϝ 155 #[.pointer (some ⟨wb,0,none⟩),ns] w (pJ N wb (ib s .tally [x,y,z,p,q]) w):=by
 obtain⟨vt,vn,vw,vu,vr,vh,vk,vs⟩:=V;obtain⟨o,cc,rfl⟩: ∃o c,vt= .slice o s.led.field.aj.length c:=aR (n:=s.led.field.aj.length) (hO.rows.own 0 _ rfl);have HO:=aa hO;have fG:=dR hO;obtain⟨b,c,rfl,hbN,hcs⟩:=hn;have lb:b<w.heap.size:=ϑ;have lw:=hO.rows.lt;have uf:=hO.rows.base;have HW:Hid (∀W,Below N w W->b<W.heap.size/\ ∀(j:Nat) (h:j<[x,y,z,p,q].length),W.cell? ⟨b,j,none⟩=some (iv [x,y,z,p,q][j])):=aa (fun W hB=>⟨by have:=hB.size;omega,fun j h=>(gX (hB.block b hbN)).trans (hcs j h)⟩);obtain⟨c0,f0,l0⟩:=ae hO.blk;have mO:=hcs 0 ϕ;simp only[au] at mO;have sZ:=hcs 1 ϕ;simp only[au] at sZ;have Bp:=hcs 2 ϕ;simp only[au] at Bp;have n03:=hcs 3 ϕ;simp only[au] at n03;have n04:=hcs 4 ϕ;simp only[au] at n04;have Α:Hid (Ϙ w w):=aa (aF _ _);have I4:=hG.Ag;have hwe:=hG.aJ;have iN:=aa hyz;clear hO hcs hG;go_enter Tryz.func155,Tryz.ntmps155;go_wp2_with fail
 refine zg 7 [] none [] ?_;simp only[zt];repeat ((first|refine zd ?_|refine zk ?_);simp only[zp])
 intro W1 hE hF;have R9:=aa (aV Α.o hE.below);clear hE hF c0 f0 mO sZ Bp n03 n04;obtain⟨c1,f1,l1⟩:=ae ((R9.o.block _ lw).trans HO.o.blk);obtain⟨uD,Y8⟩:=HW.o W1 (R9.o.mono fG);have Φ:=Y8 0 ϕ;simp only[au] at Φ;have n11:=Y8 1 ϕ;simp only[au] at n11;have n12:=Y8 2 ϕ;simp only[au] at n12;have n13:=Y8 3 ϕ;simp only[au] at n13;have n14:=Y8 4 ϕ;simp only[au] at n14;clear Y8;go_wp2_with fail
 refine(gY _ _ _).mono ?_;rintro e W2 ⟨hb,⟨hc,rfl⟩|⟨hc,rfl⟩⟩;rotate_left
 ·exact zcP
 simp at hc;have Uy:=aa (aV R9.o hb);have HS2:=aa hb;have pK:=aa hc;clear hb hc c1 f1 uD Φ n11 n12 n13 n14;obtain⟨c2,f2,l2⟩:=ae ((Uy.o.block _ lw).trans HO.o.blk);obtain⟨vF,γ⟩:=HW.o W2 (Uy.o.mono fG);have n20:=γ 0 ϕ;simp only[au] at n20;have n21:=γ 1 ϕ;simp only[au] at n21;have n22:=γ 2 ϕ;simp only[au] at n22;have n23:=γ 3 ϕ;simp only[au] at n23;have n24:=γ 4 ϕ;simp only[au] at n24;clear γ;go_wp2_with fail
 refine zg 11 [] none [] ?_;simp only[zt];repeat ((first|refine zd ?_|refine zk ?_);simp only[zp])
 intro W3 hE hF;have ζ:=aa (aV Uy.o hE.below);clear hE hF c2 f2 vF n20 n21 n22 n23 n24;obtain⟨c3,f3,l3⟩:=ae ((ζ.o.block _ lw).trans HO.o.blk);obtain⟨GM,gT⟩:=HW.o W3 (ζ.o.mono fG);have n30:=gT 0 ϕ;simp only[au] at n30;have n31:=gT 1 ϕ;simp only[au] at n31;have n32:=gT 2 ϕ;simp only[au] at n32;have n33:=gT 3 ϕ;simp only[au] at n33;have n34:=gT 4 ϕ;simp only[au] at n34;clear gT;go_wp2_with fail
 clear hyz;refine(gY _ _ _).mono ?_;rintro e W4 ⟨hb,⟨hc,rfl⟩|⟨hc,rfl⟩⟩;rotate_left
 ·exact zcQ
 simp at hc;have gJ:=aa (aV ζ.o hb);have QM:=aa hb;have wK:=aa hc;clear hb hc c3 f3 GM n30 n31 n32 n33 n34;obtain⟨c4,f4,l4⟩:=ae ((gJ.o.block _ lw).trans HO.o.blk);obtain⟨ML,je⟩:=HW.o W4 (gJ.o.mono fG);have n40:=je 0 ϕ;simp only[au] at n40;have n41:=je 1 ϕ;simp only[au] at n41;have n42:=je 2 ϕ;simp only[au] at n42;have n43:=je 3 ϕ;simp only[au] at n43;have n44:=je 4 ϕ;simp only[au] at n44;clear je;go_wp2_with fail
 refine zg 6 [] none [] ?_;simp only[zt];repeat ((first|refine zd ?_|refine zk ?_);simp only[zp])
 intro W5 hE hF;have lM:=aa (aV gJ.o hE.below);clear hE hF c4 f4 ML n40 n41 n42 n43 n44;obtain⟨c5,f5,l5⟩:=ae ((lM.o.block _ lw).trans HO.o.blk);obtain⟨lb5,rE⟩:=HW.o W5 (lM.o.mono fG);have n50:=rE 0 ϕ;simp only[au] at n50;have n51:=rE 1 ϕ;simp only[au] at n51;have n52:=rE 2 ϕ;simp only[au] at n52;have n53:=rE 3 ϕ;simp only[au] at n53;have n54:=rE 4 ϕ;simp only[au] at n54;clear rE;go_wp2_with fail
 refine(dJ 2 [decide (z<y)] W5 ϕ _ (by simp[dD]) _ _ rfl).mono ?_;rintro e W6 ⟨hb,⟨hc,rfl⟩|⟨hc,rfl⟩⟩;rotate_left
 ·simp at hc;have q0:=iN.o;exact zaj
 simp at hc;exact zaa
theorem wQ (N:Nat) (w:World) (wb:Nat) (s:iE) (V:SV) (es:List KE) (ns:Value) (x y z p q:Int) (hO:iW N w wb s V es) (hn:qc N w ns [x,y,z,p,q]) (hG:eB s):
 Ϝ 155 #[.pointer (some ⟨wb,0,none⟩),ns] w (pJ N wb (ib s .tally [x,y,z,p,q]) w):=by
 by_cases h:y<z
 ·exact Io N w wb s V es ns x y z p q hO hn hG h
 ·exact Ip N w wb s V es ns x y z p q hO hn hG ϑ
theorem Ym (N:Nat) (w:World) (wb:Nat) (s:iE) (V:SV) (es:List KE) (ns:Value) (x y z:Int) (hO:iW N w wb s V es) (hn:qc N w ns [x,y,z]) (hG:eB s) (hx:(0<=x/\x<=9999)/\0<=y/\y<=9999):Ϝ 172 #[.pointer (some ⟨wb,0,none⟩),ns] w (pJ N wb (ib s .Ac [x,y,z]) w):=by
 obtain⟨vt,vn,vw,vu,vr,vh,vk,vs⟩:=V;obtain⟨ok,ck,rfl⟩: ∃o c,vk= .slice o es.length c:=aR (n:=es.length) (hO.rows.own 6 _ rfl);obtain⟨o,cc,rfl⟩: ∃o c,vs= .slice o s.cK.aI.length c:=aR (n:=s.cK.aI.length) (hO.rows.own 7 _ rfl);have HO:=aa hO;have fG:=dR hO;obtain⟨b,c,rfl,hbN,hcs⟩:=hn;have lb:b<w.heap.size:=ϑ;have lw:=hO.rows.lt;have uf:=hO.rows.base;have HW:Hid (∀W,Below N w W->b<W.heap.size/\ ∀(j:Nat) (h:j<[x,y,z].length),W.cell? ⟨b,j,none⟩=some (iv [x,y,z][j])):=aa (fun W hB=>⟨by have:=hB.size;omega,fun j h=>(gX (hB.block b hbN)).trans (hcs j h)⟩);obtain⟨c0,f0,l0⟩:=ae hO.blk;have mO:=hcs 0 ϕ;simp only[au] at mO;have sZ:=hcs 1 ϕ;simp only[au] at sZ;have Bp:=hcs 2 ϕ;simp only[au] at Bp;have q2:Hid (Ϙ w w):=aa (aF _ _);have I4:=hG.aI;have hes:es.length=s.cK.aQ.length:=by rw[<-hO.es];simp
 have iN:=aa hes;clear hes;clear hO hcs hG;go_enter Tryz.func172,Tryz.ntmps172;go_wp2_with fail
 refine zg 8 [] none [] ?_;simp only[zt];repeat ((first|refine zd ?_|refine zk ?_);simp only[zp])
 intro W1 hE hF;have R9:=aa (aV q2.o hE.below);clear hE hF c0 f0 mO sZ Bp;obtain⟨c1,f1,l1⟩:=ae ((R9.o.block _ lw).trans HO.o.blk);obtain⟨uD,Y8⟩:=HW.o W1 (R9.o.mono fG);have Φ:=Y8 0 ϕ;simp only[au] at Φ;have n11:=Y8 1 ϕ;simp only[au] at n11;have n12:=Y8 2 ϕ;simp only[au] at n12;clear Y8;go_wp2_with fail
 refine(gY _ _ _).mono ?_;rintro e W2 ⟨hb,⟨hc,rfl⟩|⟨hc,rfl⟩⟩;rotate_left
 ·exact zcP
 simp at hc;have Α:=aa (aV R9.o hb);have HS2:=aa hb;have Uy:=aa hc;clear hb hc c1 f1 uD Φ n11 n12;obtain⟨c2,f2,l2⟩:=ae ((Α.o.block _ lw).trans HO.o.blk);obtain⟨vF,γ⟩:=HW.o W2 (Α.o.mono fG);have n20:=γ 0 ϕ;simp only[au] at n20;have n21:=γ 1 ϕ;simp only[au] at n21;have n22:=γ 2 ϕ;simp only[au] at n22;clear γ;go_wp2_with fail
 refine RX.fw (fun ps W'=> ¬(y<=z/\z<=100/\z<=y+100)/\ps=jm 2/\Below N w W') 8 [] none [(6,⟨fun _ v=>v=rv (y,z),fun _ _ _=>(y<=z/\z<=100/\z<=y+100)⟩),(7,Spec.block W2.heap.size #[iv 0,iv 0] 129)] (by rintro ps a1 Wx hdf ⟨h1,rfl,h3⟩;refine⟨hdf,um (c:=2) h3 ?_ ϖ⟩;have q0:=iN.o;have wK:=Uy.o;simp only[ib,bQ,bR,dw];(repeat (first|rw[aG ϑ]|rw[ak ϑ]))) ϰ ϰ ?_
 simp only[zt];repeat (refine RX.zd ?_;simp only[zp])
 refine RX.aY _ ϱ ϱ ⟨_,rfl⟩ (fun Wq Ι hF2=>?_) (fun v Wa Wb ho hE=>ho) (fun v hv=>?_)
 ·have Iq:Ext [] W2 Wq:=Ι;refine RX.bM 252 #[iv y,iv z,iv 100] (by go_simp;try rfl) ?_;refine(ui y z 100 Wq ϑ).mono ?_;exact zar
 obtain rfl:v=rv (y,z):=hv;simp only[zp];repeat (refine RX.zd ?_;simp only[zp])
 refine RX.gQ W2.heap.size _ _ ϱ (ah _) ϱ ϕ ϕ (fun W hW=>by go_simp;try rfl) (fun b9=>?_);simp only[zp];intro Wb hE hF;obtain⟨b9',uF,hge,tL⟩:=hF _ (aW _);cases uF;have hc:y<=z/\z<=100/\z<=y+100:=hF _ (jf _ (aW _));have HBb:=aa (aV Α.o (show Ext [] W2 Wb from hE).below);have pK:=aa hc;have oU:=aa (af (eU Α.o.size hge) tL);obtain⟨c9,f9,l9⟩:=ae tL;clear hE hF hc hge tL c2 f2 vF n20 n21 n22;go_upto_region 3 with(fail)
 refine bU fun W3 nP=>?_;have ζ:=aa (show Ϙ w W3 from by rw[nP];exact((HBb.o).setCell oU.o.1 _).setCell oU.o.1 _)
 have Bb:=aa (show W3.heap[b9]? =some (.cells #[iv y,iv z] 129 (0,0)) from by rw[nP];exact aA (aA (oU.o.2) _) _)
 have Vq:b9<W3.heap.size:=(aN.1 Bb.o).1;clear nP c9 f9 l9;obtain⟨c3,f3,l3⟩:=ae ((ζ.o.block _ lw).trans HO.o.blk);obtain⟨GM,gT⟩:=HW.o W3 (ζ.o.mono fG);have n30:=gT 0 ϕ;simp only[au] at n30;have n31:=gT 1 ϕ;simp only[au] at n31;have n32:=gT 2 ϕ;simp only[au] at n32;clear gT;go_wp2_with fail
 refine(oH _ _ _).mono ?_;rintro e W4 ⟨hb,⟨hc,rfl⟩|⟨hc,rfl⟩⟩;rotate_left
 ·simp at hc;have q0:=iN.o;have wK:=Uy.o;exact zah
 simp at hc;have gJ:=aa (aV ζ.o hb);have QM:=aa hb;have Fj:=aa hc;clear hb hc c3 f3 GM n30 n31 n32;obtain⟨c4,f4,l4⟩:=ae ((gJ.o.block _ lw).trans HO.o.blk);obtain⟨ML,je⟩:=HW.o W4 (gJ.o.mono fG);have n40:=je 0 ϕ;simp only[au] at n40;have n41:=je 1 ϕ;simp only[au] at n41;have n42:=je 2 ϕ;simp only[au] at n42;clear je;go_wp2_with fail
 obtain⟨Ms,η⟩: ∃Ms,Ms=(Value.slice o s.cK.aI.length cc).ownBlock.toList:=⟨_,rfl⟩;have hO4:=HO.o.below gJ.o;have Υ:wb∉Ms:=fun h=>hO4.rows.off 7 _ rfl (by rw[η] at h;exact dh.1 h);have hm2:b∉Ms:=fun h=>by have:=((hO4.rows.own 7 _ rfl).lt b (by rw[η] at h;exact dh.1 h)).1;omega
 have qh: ∀m∈Ms,m<W4.heap.size:=fun m h=>((hO4.rows.own 7 _ rfl).lt m (by rw[η] at h;exact dh.1 h)).2;obtain⟨c9,f9,l9⟩:=ae ((QM.o.block _ Vq).trans Bb.o);have hm9:b9∉Ms:=fun h=>by have:=((HO.o.rows.own 7 _ rfl).lt b9 (by rw[η] at h;exact dh.1 h)).2;have:=oU.o.1;omega
 have HM:=aa η;have iF:=aa hO4;clear η hO4;refine zg 12 Ms (some 11) [(10,Spec.slice W4.heap.size #[.bool true,iv x,iv y,iv z] 192 1),(11,⟨fun _ v=> ∃o2 c2,v= .slice o2 (s.cK.aI.length+1) c2,fun _ v Wx=>Wx.ownsRow N 192 4 v (s.cK.aI.length+1) (dI s.cK.aI++[.bool true,iv x,iv y,iv z])/\(v.ownBlock=(Value.slice o s.cK.aI.length cc).ownBlock∨ ∃q,v.ownBlock=some q/\W4.heap.size<=q)⟩)] ?_;simp only[zt];repeat ((first|refine zd ?_|refine zk ?_);simp only[zp])
 refine cB W4.heap.size _ _ 1 ϱ (ah _) ϱ qh ϕ (fun W hW=>by go_simp;try rfl) (fun b6=>?_);simp only[zp];repeat ((first|refine zd ?_|refine zk ?_);simp only[zp])
 refine aY _ ϱ ϱ (by exact⟨.slice none (s.cK.aI.length+1) 0,none,0,rfl⟩) (fun W6 hE hF=>?_) (fun v Wa Wb ho hE=>?_) (fun v hv=>?_)
 ·have Iq:Ext [] W4 W6:=hE;obtain⟨b',hb',hge,ο⟩:=hF _ (aW _) ϰ;cases hb';have VC:W6.ownsRow N 192 4 (.slice o s.cK.aI.length cc) s.cK.aI.length (dI s.cK.aI):=az (Ms:=[]) (iF.o.rows.own 7 _ rfl) Iq ϕ;have ξ:aH 4 W6 (.slice (some ⟨b6,0,none⟩) 1 1) 1 ([.bool true,iv x,iv y,iv z]):=aH.bI 4 1 ο rfl ϖ;refine Does.mono (dA Yu ϱ ϱ VC ϱ ξ (YS x y z) ϑ ϑ (by have:=Iq.size;have:=gJ.o.size;omega)) ?_;exact zat
 ·exact zaP
 obtain⟨o7,c7,rfl⟩:=hv;simp only[zp];intro W5 hE hF;obtain⟨nH,yn⟩:=hF _ (aW _);have eT:Ext Ms W4 W5:=hE;have χ:=(eT.block wb iF.o.rows.lt Υ).trans iF.o.blk;obtain⟨c5,f5,l5⟩:=ae χ;have gP:=aa (af eT (af nH (af yn χ)));have BF:Below N w W5:=(gJ.o.mono fG).trans ⟨eT.os,eT.tape,eT.output,eT.size,fun k hk=>eT.block k (by have:=gJ.o.size;omega) (fun h=>by have:=((iF.o.rows.own 7 _ rfl).lt k (by rw[HM.o] at h;exact dh.1 h)).1;omega)⟩;have nG:=aa BF;clear hE hF eT nH yn χ BF Υ hm2 qh c4 f4 ML n40 n41 n42;go_wp2_with fail
 go_end0
 have q0:=iN.o;have wK:=Uy.o;have q1:=pK.o;have q3:=Fj.o;simp only[ib,bQ,bR,dw];(repeat (first|rw[aG ϑ]|rw[ak ϑ]))
 refine⟨nG.o.setCell uf _,.inl ⟨rfl,rfl,⟨vt,vn,vw,vu,vr,vh,.slice ok (es.length) ck,.slice o7 (s.cK.aI.length+1) c7⟩,es,iF.o.put (i:=7) rfl ⟨192,4,.slice o7 (s.cK.aI.length+1) c7,s.cK.aI.length+1,dI s.cK.aI++[.bool true,iv x,iv y,iv z]⟩ gP.o.1 (fun m hm=>by rw[HM.o] at hm;exact dh.1 hm) gP.o.2.1 gP.o.2.2.1 (aA gP.o.2.2.2 _) (by simp[gB,eH,dI]) (iF.o.es)⟩⟩
def ja (n:Nat):Nat->ay
 |0=>[]
 |m+1=>ja (n/10) m++[xz (n%10)]
theorem ik (m:Nat): ∀n,(ja n m).length=m:=by
 induction m with
 |zero=>intro n;rfl
 |succ m ih=>intro n;simp[ja,ih]
theorem ZN {a b:Nat} (ha:a<10) (hb:b<10) (h:xz a=xz b):a=b:=by
 have:=congrArg UInt8.toNat h;rw[j5 ha,j5 hb] at this;omega
theorem Xb: ∀(m a b:Nat),a<10^m->b<10^m->ja a m=ja b m->a=b:=by
 intro m;induction m with
 |zero=>intro a b ha hb _;simp at ha hb;omega
 |succ m ih=>
  intro a b ha hb h;rw[Nat.pow_succ] at ha hb;obtain⟨h1,h2⟩:=List.append_inj h (by rw[ik,ik]);have h3:=ih _ _ ϑ ϑ h1;have h4:=ZN ϑ ϑ (List.cons.inj h2).1;omega
def fZ:Nat->ay->Nat
 |_,[]=>0
 |k,c::l=>k*c.toNat+fZ (k+1) l
def gM (i:Nat) (GQ:ay):Nat:=(29*(i+1)+fZ 2 GQ)%9949
theorem Hl (i:Nat) (GQ:ay):gM i GQ<10^4:=by
 have:=Nat.mod_lt (29*(i+1)+fZ 2 GQ) (show 9949>0 by omega);unfold gM;omega
def bX (i:Nat) (GQ:ay):ay:=ja GQ.length 2++(58::(GQ++(58::(ja (gM i GQ) 4++[10]))))
theorem iT (i:Nat) (GQ:ay):(bX i GQ).length=9+GQ.length:=by simp[bX,ik];omega
def gU (i:Nat):List ay->ay
 |[]=>[]
 |l::ls=>bX i l++gU (i+1) ls
def qP (ls:List ay):ay:=gU 0 ls
theorem FR: ∀(ls:List ay) (i:Nat) (l:ay),gU i (ls++[l])=gU i ls++bX (i+ls.length) l:=by
 intro ls;induction ls with
 |nil=>intro i l;simp[gU]
 |cons x ls ih=>intro i l;simp only[List.cons_append,gU,ih,jg,List.length_cons];rw[show i+1+ls.length=i+(ls.length+1) from by omega]
def isRec (i:Nat) (b:ay) (n:Nat):Bool:=decide (9+n<=b.length)&&(bX i ((b.drop 3).take n)==b.take (9+n))
def qw (i:Nat) (b:ay):Option ay:=((List.range 61).find? (isRec i b)).map fun n=>(b.drop 3).take n
def dE:Nat->Nat->ay->List ay
 |0,_,_=>[]
 |f+1,i,b=>match qw i b with
  |none=>[]
  |some l=>l::dE f (i+1) (b.drop (9+l.length))
def iB:List ay->Nat
 |[]=>0
 |l::ls=>9+l.length+iB ls
theorem wW {i n:Nat} {b:ay}:isRec i b n=true↔ ∃l rest,l.length=n/\b=bX i l++rest:=by
 unfold isRec;rw[dU,dZ,beq_iff_eq];constructor
 ·rintro⟨h1,h2⟩;refine⟨(b.drop 3).take n,b.drop (9+n),by simp;omega,?_⟩;rw[h2,List.take_append_drop]
 ·rintro⟨l,rest,rfl,rfl⟩;have hd:((bX i l++rest).drop 3).take l.length=l:=by
   have:bX i l++rest=(ja l.length 2++[58])++(l++(58::(ja (gM i l) 4++[10])++rest)):=by simp[bX]
   rw[this,List.drop_append_of_le_length (by simp[ik]),List.drop_of_length_le (by simp[ik]),List.nil_append,lJ (ah _),List.take_length]
  refine⟨by rw[cu,iT];omega,?_⟩;rw[hd,lJ (by rw[iT];omega),ji (by rw[iT];omega)]
theorem YO {i j:Nat} {l m r s:ay} (hl:l.length<=60) (hm:m.length<=60) (h:bX i l++r=bX j m++s):l.length=m.length:=by
 unfold bX at h;rw[jg,jg] at h;exact Xb 2 _ _ ϑ ϑ (List.append_inj h (by rw[ik,ik])).1
theorem QT {i:Nat} {l:ay} (hl:l.length<=60) (rest:ay):qw i (bX i l++rest)=some l:=by
 unfold qw;have h1:(List.range 61).find? (isRec i (bX i l++rest))=some l.length:=by
  rw[List.find?_range_eq_some];refine⟨wW.2 ⟨l,rest,rfl,rfl⟩,jQ.2 ϑ,fun n hn=>?_⟩;rw[Bool.not_eq_true', <-Bool.not_eq_true];intro hc;obtain⟨m,s,hm,he⟩:=wW.1 hc;have:=YO hl ϑ he;omega
 rw[h1];have:=(wW (i:=i) (n:=l.length)).2 ⟨l,rest,rfl,rfl⟩;unfold isRec at this;rw[dU,beq_iff_eq] at this;rw[Option.map_some];congr 1;have h2:bX i l++rest=(ja l.length 2++[58])++(l++(58::(ja (gM i l) 4++[10])++rest)):=by simp[bX]
 rw[h2,List.drop_append_of_le_length (by simp[ik]),List.drop_of_length_le (by simp[ik]),List.nil_append,lJ (ah _),List.take_length]
theorem xO {i:Nat} {b l:ay} (h:qw i b=some l):l.length<=60/\ ∃rest,b=bX i l++rest:=by
 unfold qw at h;cases hf:(List.range 61).find? (isRec i b) with
 |none=>rw[hf] at h;cases h
 |some n=>
  rw[hf] at h;obtain rfl:=iJ h;obtain⟨h1,h2,_⟩:=List.find?_range_eq_some.1 hf;obtain⟨l,rest,rfl,rfl⟩:=wW.1 h1;have h3:bX i l++rest=(ja l.length 2++[58])++(l++(58::(ja (gM i l) 4++[10])++rest)):=by simp[bX]
  have h4:((bX i l++rest).drop 3).take l.length=l:=by
   rw[h3,List.drop_append_of_le_length (by simp[ik]),List.drop_of_length_le (by simp[ik]),List.nil_append,lJ (ah _),List.take_length]
  show((bX i l++rest).drop 3 |>.take l.length).length<=60/\ ∃abk,bX i l++rest=bX i ((bX i l++rest).drop 3 |>.take l.length)++abk
  rw[h4];exact⟨by have:=jQ.1 h2;omega,rest,rfl⟩
theorem Us {i:Nat} {b:ay} (h: ∀l rest,l.length<=60->b≠bX i l++rest):qw i b=none:=by
 cases hw:qw i b with
 |none=>rfl
 |some l=>obtain⟨h1,r,h2⟩:=xO hw;exact absurd h2 (h l r h1)
theorem vQ: ∀(f i:Nat) (b:ay),(dE f i b).length<=f:=by
 intro f;induction f with
 |zero=>intro i b;exact ah _
 |succ f ih=>
  intro i b;unfold dE;split
  ·simp
  ·rename_i l _;have:=ih (i+1) (b.drop (9+l.length));simp only[List.length_cons];omega
theorem xX: ∀(f i:Nat) (b:ay), ∀l∈dE f i b,l.length<=60:=by
 intro f;induction f with
 |zero=>intro i b l hl;cases hl
 |succ f ih=>
  intro i b l hl;unfold dE at hl;split at hl
  ·cases hl
  ·rename_i x hx;rcases eQ.1 hl with rfl|hl
   ·exact(xO hx).1
   ·exact ih _ _ l hl
theorem Rc: ∀(f i:Nat) (b:ay),iB (dE f i b)<=b.length:=by
 intro f;induction f with
 |zero=>intro i b;exact bE _
 |succ f ih=>
  intro i b;unfold dE;split
  ·simp[iB]
  ·rename_i l hl;obtain⟨_,r,rfl⟩:=xO hl;have h1:(bX i l++r).drop (9+l.length)=r:=by rw[List.drop_append_of_le_length (by rw[iT];omega),List.drop_of_length_le (by rw[iT];omega),List.nil_append]
   rw[h1];have:=ih (i+1) r;simp only[iB,cu,iT];omega
theorem zz: ∀(ls:List ay) (i:Nat),(gU i ls).length=iB ls:=by
 intro ls;induction ls with
 |nil=>intro i;rfl
 |cons l ls ih=>intro i;simp[gU,iB,iT,ih]
theorem Gi (a b:List ay):iB (a++b)=iB a+iB b:=by
 induction a with
 |nil=>simp[iB]
 |cons x a ih=>simp only[List.cons_append,iB,ih];omega
def ou (b:ay):Option Nat:=
 if jb (b.getD 0 0)&&jb (b.getD 1 0) then some (10*((b.getD 0 0).toNat-48)+((b.getD 1 0).toNat-48)) else none
def Cy (i n:Nat) (b:ay):Bool:=
 (b.getD 2 0==58&&b.getD (3+n) 0==58)&&(b.getD (8+n) 0==10&&((b.drop (4+n)).take 4==ja (gM i ((b.drop 3).take n)) 4))
def mV (i:Nat) (b:ay):Option ay:=
 if b.length<9 then none else match ou b with
  |none=>none
  |some n=>if 60<n∨b.length<9+n then none else if Cy i n b then some ((b.drop 3).take n) else none
theorem Lt {n:Nat} (h:n<100):ja n 2=[xz (n/10),xz (n%10)]:=by
 have:n/10%10=n/10:=ϑ;simp[ja,this]
theorem NR {i:Nat} {l:ay} (hl:l.length<=60) (rest:ay):ou (bX i l++rest)=some l.length:=by
 unfold ou bX;rw[Lt ϑ];simp only[List.cons_append,List.nil_append,jg,dw];rw[AU ϑ,AU ϑ,j5 ϑ,j5 ϑ];simp only[Bool.and_self,if_true];congr 1;omega
theorem UX (i:Nat) (l rest:ay):bX i l++rest=(ja l.length 2++[58])++(l++(58::(ja (gM i l) 4++(10::rest)))):=by simp[bX]
theorem UC {i:Nat} {l:ay} (rest:ay):((bX i l++rest).drop 3).take l.length=l/\Cy i l.length (bX i l++rest)=true:=by
 have h3:(ja l.length 2++[58]).length=3:=by simp[ik]
 have hd: ∀k,(bX i l++rest).drop (3+k)=(l++(58::(ja (gM i l) 4++(10::rest)))).drop k:=fun k=>by
  rw[UX,List.drop_append,List.drop_of_length_le ϑ,List.nil_append,h3];congr 1;omega
 have hd0:=hd 0;rw[Nat.add_zero,List.drop_zero] at hd0;have e1:((bX i l++rest).drop 3).take l.length=l:=by rw[hd0,lJ (ah _),List.take_length]
 have hda: ∀k,(bX i l++rest).drop (3+l.length+k)=(58::(ja (gM i l) 4++(10::rest))).drop k:=fun k=>by
  rw[show 3+l.length+k=3+(l.length+k) from ϑ,hd,List.drop_append,List.drop_of_length_le ϑ,List.nil_append];congr 1;omega
 have g: ∀k,(bX i l++rest).getD (3+l.length+k) 0=(58::(ja (gM i l) 4++(10::rest))).getD k 0:=fun k=>by
  have:=congrArg (fun x:ay=>x.getD 0 0) (hda k);simpa [fK,List.getElem?_drop] using this
 have g0:=g 0;have g5:=g 5;have d1:=hda 1;have l4:(ja (gM i l) 4).length=4:=ik 4 _;refine⟨e1,?_⟩;unfold Cy;rw[e1];rw[show 8+l.length=3+l.length+5 from ϑ,show 4+l.length=3+l.length+1 from ϑ,g5,d1];rw[Nat.add_zero] at g0;rw[g0];have g2:(bX i l++rest).getD 2 0=58:=by
  unfold bX;generalize hq:ja l.length 2=q;have hq2:q.length=2:=by rw[<-hq];exact ik 2 _
  obtain⟨a,b,rfl⟩: ∃a b,q=[a,b]:=by
   match q,hq2 with
   |[a,b],_=>exact⟨a,b,rfl⟩
  simp
 rw[g2];generalize hq:ja (gM i l) 4=q at*
 obtain⟨a,b,c,d,rfl⟩: ∃a b c d,q=[a,b,c,d]:=by
  match q,l4 with
  |[a,b,c,d],_=>exact⟨a,b,c,d,rfl⟩
 simp
theorem MU {i:Nat} {l:ay} (hl:l.length<=60) (rest:ay):mV i (bX i l++rest)=some l:=by
 have IY:(bX i l++rest).length=9+l.length+rest.length:=by rw[cu,iT]
 unfold mV;rw[ak ϑ,NR hl];obtain⟨h1,h2⟩:=UC (i:=i) (l:=l) rest;simp only;rw[ak ϑ,h2,h1];rfl
theorem getD_eq {b:ay} {k:Nat} (h:k<b.length):b.getD k 0=b[k]:=by rw[fK,dn h,Option.getD_some]
theorem JP {i:Nat} {b l:ay} (h:mV i b=some l):l.length<=60/\ ∃rest,b=bX i l++rest:=by
 unfold mV at h;split at h
 ·cases h
 rename_i h9;split at h
 ·cases h
 rename_i n hn;split at h
 ·cases h
 rename_i hb;split at h
 ·rename_i ht;obtain rfl:=iJ h;have hll:((b.drop 3).take n).length=n:=by simp;omega
  refine⟨by omega,b.drop (9+n),?_⟩;unfold ou at hn;split at hn
  ·rename_i hd;rw[dU] at hd;obtain⟨x,hx,ex⟩:=Jg hd.1;obtain⟨y,hy,ey⟩:=Jg hd.2;have hn':=iJ hn;rw[ex,ey,j5 hx,j5 hy] at hn';simp only[Cy,dU,beq_iff_eq] at ht;obtain⟨⟨t1,t2⟩,t3,t4⟩:=ht;unfold bX;rw[hll,Lt ϑ,show n/10=x from ϑ,show n%10=y from ϑ, <-ex, <-ey, <-t4];have e0:b=b.take 3++((b.drop 3).take n++b.drop (3+n)):=by
    have h1:(b.drop 3).drop n=b.drop (3+n):=by rw[List.drop_drop]
    rw[<-h1,List.take_append_drop,List.take_append_drop]
   have e1:b.take 3=[b.getD 0 0,b.getD 1 0,58]:=by
    rw[<-t1]
    match b,h9 with
    |x::y::z::b,_=>rfl
    |[x,y],h=>simp at h
    |[x],h=>simp at h
    |[],h=>simp at h
   have e2:b.drop (3+n)=58::((b.drop (4+n)).take 4++(10::b.drop (9+n))):=by
    have q1:b.drop (3+n)=b.getD (3+n) 0::b.drop (4+n):=by
     rw[su (show 3+n<b.length by omega),getD_eq (show 3+n<b.length by omega)];congr 2;omega
    have q2:b.drop (8+n)=b.getD (8+n) 0::b.drop (9+n):=by
     rw[su (show 8+n<b.length by omega),getD_eq (show 8+n<b.length by omega)];congr 2;omega
    have q3:(b.drop (4+n)).drop 4=b.drop (8+n):=by rw[List.drop_drop];congr 1;omega
    rw[q1,t2, <-t3, <-q2, <-q3,List.take_append_drop]
   rw[jg];have:b=b.take 3++((b.drop 3).take n++(58::((b.drop (4+n)).take 4++(10::b.drop (9+n))))):=by rw[<-e2];exact e0
   rw[e1] at this;simpa using this
  ·cases hn
 ·cases h
theorem Ga (i:Nat) (b:ay):mV i b=qw i b:=by
 cases h:mV i b with
 |some l=>
  obtain⟨h1,rest,rfl⟩:=JP h;rw[QT h1]
 |none=>
  refine(Us fun l rest hl he=>?_).symm;rw[he,MU hl] at h;cases h
end Go.Proofs.Z.Bk
end
section
namespace Go.Proofs.Z
open Go.RowKit Go.RG Go.SL Go.Shelf gK Go.TB
theorem QB {l:aO} (hp: ∃d∈eZ l,iI l [] d=true) (p:Int->dF->dF):(zL p l (eZ l)).length=l.field.aJ.toNat:=by
 rcases Hr p l (eZ l) (eZ l).length (ah _) with h|h
 ·obtain⟨d,hd,hc⟩:=hp;by_cases h0:0<l.field.aJ.toNat
  ·rcases EN p l (eZ l) h0 (eZ l).length (ah _) with⟨_,h2⟩|⟨h1,_⟩
   ·rw[List.take_length] at h2;rw[h2 d hd] at hc;cases hc
   ·exact h1
  ·unfold zL;rw[h];simp;omega
 ·exact h
end Go.Proofs.Z
end

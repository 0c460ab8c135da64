/-
  Texts of this claim, packed by a program: FA FD EL EM ET HE HA HB HC EE EG YK EJ EH FB FC OG.
-/
import Derived.WalkKit
import Derived.WalkLawsBesides
import Derived.WalkSpells
import Derived.Outline
import Derived.Handy
import Derived.KernelRfl
import Derived.Lib.Hide
import Derived.Lib.BufferWrite
import Derived.Laws.CopyOwn
import Derived.Laws.BytesArg
import Derived.BigRegion
import Derived.Laws.DeepStrings4
import Derived.Laws.IdiomStrings
import Derived.Laws.Cover3
import Derived.Scope
import Derived.Lib.Builder
import Derived.Lib.AppendStr
import Derived.Lib.UnsafeStr
import Derived.Laws.Externs
import Derived.Deep.Slices
import Derived.Carry
import Derived.Test.YthllkbbbapgelaaGreatDoorPW14
set_option maxHeartbeats 8000000
set_option maxRecDepth 100000
set_option linter.all false
section
namespace Go.Proofs.YthllkbbbapgelaaGreatDoor.Bk
open Go.Lib Go.RowKit Go.RG Go.SL Go.Shelf jy Go.TB Go.Proofs.YthllkbbbapgelaaGreatDoor.AQ
theorem F6 {A B C cs:List Value} (h:B.length=cs.length):splice (A++(B++C)) A.length cs=A++(cs++C):=by
 unfold splice
 rw[nK (ai _),kF (ai _), <-h,List.drop_append]
 simp
theorem set_mid {A C:List Value} {x y:Value}:(A++(x::C)).set A.length y=A++(y::C):=by
 rw[qA _ _ (ai _),Nat.sub_self,List.set_cons_zero]
theorem NW {a b c d e f x y z:Value} {ln Z:List Value} (hZ:Z.length=ln.length+9):
 (splice ((splice ((splice Z 0 [a,b]).set 2 x) 3 ln).set (3+ln.length) y) (4+ln.length) [c,d,e,f]).set (8+ln.length) z=a::b::x::(ln++[y,c,d,e,f,z]):=by
 obtain⟨z0,z1,z2,Z1,y0,y1,y2,y3,y4,y5,rfl,h1⟩: ∃z0 z1 z2 Z1 y0 y1 y2 y3 y4 y5,Z=z0::z1::z2::(Z1++[y0,y1,y2,y3,y4,y5])/\Z1.length=ln.length:=by
  match Z,hZ with
  |z0::z1::z2::Z',hZ=>
   have hl:Z'.length=ln.length+6:=by simp at hZ;omega
   refine⟨z0,z1,z2,Z'.take ln.length,?_⟩
   have h6:(Z'.drop ln.length).length=6:=by rw[lG];omega
   match hq:Z'.drop ln.length,h6 with
   |[y0,y1,y2,y3,y4,y5],_=>exact⟨y0,y1,y2,y3,y4,y5,by rw[<-hq,List.take_append_drop],by rw[gU];omega⟩
 have s1:splice (z0::z1::z2::(Z1++[y0,y1,y2,y3,y4,y5])) 0 [a,b]=a::b::z2::(Z1++[y0,y1,y2,y3,y4,y5]):=rfl
 rw[s1]
 have s2:(a::b::z2::(Z1++[y0,y1,y2,y3,y4,y5])).set 2 x=[a,b,x]++(Z1++[y0,y1,y2,y3,y4,y5]):=rfl
 rw[s2,show(3:Nat)=[a,b,x].length from rfl,F6 h1]
 have s3:[a,b,x]++(ln++[y0,y1,y2,y3,y4,y5])=([a,b,x]++ln)++(y0::[y1,y2,y3,y4,y5]):=by simp
 rw[s3,show[a,b,x].length+ln.length=([a,b,x]++ln).length from by simp;omega,set_mid]
 have s4:([a,b,x]++ln)++(y::[y1,y2,y3,y4,y5])=([a,b,x]++ln++[y])++([y1,y2,y3,y4]++[y5]):=by simp
 rw[s4,show 4+ln.length=([a,b,x]++ln++[y]).length from by simp;omega,F6 (B:=[y1,y2,y3,y4]) (cs:=[c,d,e,f]) rfl]
 have s5:([a,b,x]++ln++[y])++([c,d,e,f]++[y5])=([a,b,x]++ln++[y,c,d,e,f])++(y5::[]):=by simp
 rw[s5,show 8+ln.length=([a,b,x]++ln++[y,c,d,e,f]).length from by simp;omega,set_mid]
 simp
theorem wV {W:World} {o:Option Addr} {n c:Nat} {l:az} (h:aN 1 W (.slice o n c) n (Lib.byteCells l)):(convert 25 9 (.slice o n c)).run Tryz.prog W= .ok (.string (dG l)) W:=by
 obtain⟨hl,o',c',hv,h1,h2,h3,h4⟩:=h
 cases hv
 have hn:l.length=n:=by simpa [Lib.byteCells] using hl
 cases o with
 |none=>
  have:n=0:=by have:=h3 rfl;omega
  subst this
  obtain rfl:=kG hn
  rw[run_convert_bytes_nil W 25 5 Tryz.underlying25 Tryz.underlying5 _ _ 9 Tryz.underlying9]
  rfl
 |some a=>
  obtain⟨b,off,sp⟩:=a
  obtain⟨hs,hc⟩:=h4 _ rfl
  simp only at hs hc
  subst hs
  rw[run_convert_bytes_arg W 25 5 Tryz.underlying25 Tryz.underlying5 b off n c (l.map fun x=>(x.toNat:Int)) (by simpa using hn) (fun i hi=>by
   have hi':i<l.length:=by omega
   have:=hc i (.int .u8 (l[i].toNat:Int)) (by simp[Lib.byteCells,hi'])
   rw[this]
   simp[List.getD,hi']) 9 Tryz.underlying9]
  congr 1
  congr 1
  simp only[strOfNums,dG]
  congr 1
  apply Array.ext
  ·simp
  ·intro j h1 h2
   simp
theorem abw {w W1:World} {A B:Array Value} {t u:TypeId} (h:W1=(w.alloc (.cells A t)).alloc (.cells B u)):
 Below w.heap.size w W1/\W1.heap[w.heap.size]? =some (.cells A t (0,0))/\W1.heap[w.heap.size+1]? =some (.cells B u (0,0))/\W1.heap.size=w.heap.size+2:=by
 subst h
 exact⟨aj (aj (aH _ _) _) _,(aV _ _ _ (by simp)).trans (ay _ _),dV _ _ _,by simp⟩
theorem row_step {W W':World} {g t5:Nat} {L X:List Value} {t:TypeId} {o:Obj} (h:W'=W.setRow g L.toArray) (hk:W.heap[g]? =some (.cells X.toArray t (0,0))) (hne:g≠t5) (h5:W.heap[t5]? =some o):
 W'.heap[t5]? =some o/\W'.heap[g]? =some (.cells L.toArray t (0,0))/\Below g W W':=by
 subst h
 exact⟨(setRow_other W g t5 _ (Ne.symm hne)).trans h5,setRow_heap W g _ _ t _ hk,below_setRow (aH _ _) (ai _) _⟩
theorem Dy {W W':World} {g t5 j:Nat} {v:Value} {X:List Value} {t:TypeId} {o:Obj} (h:W'=W.setCell ⟨g,j,none⟩ v) (hk:W.heap[g]? =some (.cells X.toArray t (0,0))) (hne:g≠t5) (h5:W.heap[t5]? =some o):
 W'.heap[t5]? =some o/\W'.heap[g]? =some (.cells (X.set j v).toArray t (0,0))/\Below g W W':=by
 subst h
 refine⟨(heap_setCell_other W ⟨g,j,none⟩ t5 v (Ne.symm hne)).trans h5,?_,(aH g W).setCell (p:=⟨g,j,none⟩) (ai _) v⟩
 rw[heap_setCell_same W g j _ t v hk,rf]
theorem RF (n:Nat) (hn:n<=1000) (W:World):
 (Instr.makeSlice 25 (iv n) (iv n)).run Tryz.prog W= .ok (.slice (some ⟨W.heap.size,0,none⟩) n n) (W.alloc (.cells (List.replicate n (Value.int .u8 0)).toArray 5)):=by
 obtain⟨i,hi,hz,hs,hby⟩:=info_parts QV.info
 have:=run_make (P:=Tryz.prog) W 25 5 i (.int .u8 0) QV.und hi hz .i64 .i64 n n (by omega) (Int.le_refl _) (by rw[hby];omega) (by omega)
 rw[this,hs]
 simp only[Int.toNat_natCast]
 congr 3
 apply Array.ext
 ·simp[madeCells]
 ·intro j h1 h2
  simp[madeCells,Value.cells]
  rw[Nat.mod_one]
  rfl
theorem Jb {n:Nat} {p q r s:UInt8} (h:jY n 4=[p,q,r,s]):jY n 2=[r,s]:=by
 rw[Ht 3,Ht 2] at h
 injection h with _ h
 injection h with _ h
def alc (i:Nat) (line:az) (w:World) (e:Ending) (w':World):Prop:=
 Below w.heap.size w w'/\ ∃g n,n=9+line.length/\e= .returned (.slice (some ⟨g,0,none⟩) n n)/\w.heap.size<=g/\w'.heap[g]? =some (.cells (Lib.byteCells (bP i line)).toArray 5 (0,0))
theorem Q8 (i:Nat) (line:az) (w:World) (hi:i<=1000) (hl:line.length<=60):Calls Tryz.prog 59 #[iv i,.string (dG line)] w (alc i line w):=by
 obtain⟨a,b,c,d,hd⟩:=zf (iE i line)
 obtain⟨p,q,r,s,hs⟩:=zf line.length
 have HT:=FY i line w hi hl
 have HSH:=ae (fun W=>NP line.length (by omega) W)
 unfold Us at HT
 rw[hd] at HT
 rw[hs] at HSH
 have hrec:Lib.byteCells (bP i line)=uv r::uv s::uv 58::(Lib.byteCells line++[uv 58,uv a,uv b,uv c,uv d,uv 10]):=by
  unfold bP
  rw[hd,Jb hs]
  simp[Lib.byteCells,uv]
 have hbl:(Lib.byteCells line).length=line.length:=by simp[Lib.byteCells]
 have hsz:=jE line
 obtain⟨c1,hc1⟩: ∃c,c=(58:UInt8):=⟨_,rfl⟩
 obtain⟨c3,hc3⟩: ∃c,c=(10:UInt8):=⟨_,rfl⟩
 rw[<-hc1, <-hc3] at HT hrec
 have HR:=ae hrec
 have HTT:Hid (Calls Tryz.prog 107 #[iv i,.string (dG line)] w (PV (.agg #[uv c1,uv c1,uv c3,uv a,uv b,uv c,uv d]) w)):=ae HT
 have HSW:Hid (∀W,Calls Tryz.prog 108 #[iv line.length] W (PV (.agg #[uv p,uv q,uv r,uv s]) W)):=ae HSH.o
 have HBL:=ae hbl
 clear hd hs hrec hc1 hc3 HT hbl HSH
 go_enter Tryz.func59,Tryz.ntmps59
 go_wp2_with fail
 refine HTT.o.mono ?_
 rintro e W1 ⟨rfl,hb1⟩
 have HB1:=ae hb1
 go_wp2_with fail
 refine(HSW.o W1).mono ?_
 rintro e W2 ⟨rfl,hb2⟩
 have HB2:=ae (aY HB1.o hb2)
 clear hb1 hb2
 go_upto_region 2 with(fail)
 refine dN fun W3 hW3=>?_
 obtain⟨hb3,k5,k6,hz3⟩:=abw hW3
 have HB3:=ae (aY HB2.o hb3)
 have XX:=ae (ag k5 k6)
 clear hW3 hb3 k5 k6
 obtain⟨N,hN⟩: ∃N,N=9+line.length:=⟨_,rfl⟩
 have hmk:(Instr.makeSlice 25 (iv (3+(line.length:Int)+6)) (iv (3+(line.length:Int)+6))).run Tryz.prog W3= .ok (.slice (some ⟨W3.heap.size,0,none⟩) N N) (W3.alloc (.cells (List.replicate N (Value.int .u8 0)).toArray 5)):=by
  have e:(3+(line.length:Int)+6)=((N:Nat):Int):=by omega
  rw[e]
  exact RF N (by omega) W3
 go_upto_region 3 with(fail)
 refine dN fun W4 FK=>?_
 have k7:W4.heap[W2.heap.size+2]? =some (.cells (List.replicate (9+line.length) (Value.int .u8 0)).toArray 5 (0,0)):=by
  rw[FK, <-hz3,List.toArray_replicate]
  exact ay _ _
 have hb4:Below W3.heap.size W3 W4:=by rw[FK];exact aj (aH _ _) _
 have hw2:w.heap.size<=W2.heap.size:=HB2.o.size
 have HB4:=ae (aY HB3.o hb4)
 have k5:=(hb4.block W2.heap.size (by omega)).trans XX.o.1
 have k6:=(hb4.block (W2.heap.size+1) (by omega)).trans XX.o.2
 clear FK hb4 hmk hN XX
 obtain⟨g,hg⟩: ∃g,W2.heap.size+2=g:=⟨_,rfl⟩
 obtain⟨t6,h6⟩: ∃g,W2.heap.size+1=g:=⟨_,rfl⟩
 obtain⟨t5,h5⟩: ∃g,W2.heap.size=g:=⟨_,rfl⟩
 rw[hg] at k7⊢
 rw[h6] at k6⊢
 rw[h5] at k5⊢
 have hne:g≠t5/\g≠t6/\w.heap.size<=g:=by omega
 have KN:=ae hne
 clear hg h6 h5 hne hz3 hw2
 have xI:=ae k7
 have Yn:=ae k5
 have HK6:=ae k6
 obtain⟨c6,f6,l6⟩:=af k6
 clear k5 k6 k7
 have hc6: ∀j v,[uv r,uv s][j]? =some v->W4.cell? ((⟨t6,2,none⟩:Addr).add j)=some v:=fun j v hj=>by
  match j,hj with
  |0,hj=>exact(c6 2).trans hj
  |1,hj=>exact(c6 3).trans hj
 obtain⟨L0,hL0⟩: ∃L0,L0=List.replicate (9+line.length) (Value.int .u8 0):=⟨_,rfl⟩
 have hl0:L0.length=9+line.length:=by rw[hL0,List.length_replicate]
 have k7:=xI.o
 rw[<-hL0] at k7
 have hcp:(Builtin.copy_ #[25,25] 3 #[.slice (some ⟨g,0,none⟩) (9+line.length) (9+line.length),.slice (some ⟨t6,2,none⟩) 2 2]).run Tryz.prog W4= .ok (goInt 2) (W4.setRow g (splice L0 0 [uv r,uv s]).toArray):=by
  have h:=run_copy_row (P:=Tryz.prog) W4 25 25 3 5 g 0 (9+line.length) (9+line.length) ⟨t6,2,none⟩ 2 2 L0.toArray 5 [uv r,uv s] Tryz.underlying25 (by kernel_rfl) k7 (by rw[show Nat.min 2 (9+line.length)=2 from Nat.min_eq_left (by omega)];rfl) hc6 (by simp;omega) (by simp[uv,Value.oneCell'])
  exact h
 have HL0:=ae hl0
 clear hc6 hL0 hl0 xI
 have xI:=ae k7
 clear k7
 go_upto_region 4 with(fail)
 refine dN fun W5 yx=>?_
 obtain⟨L1,hL1⟩: ∃L1,L1=splice L0 0 [uv r,uv s]:=⟨_,rfl⟩
 rw[<-hL1] at yx
 have hl1:L1.length=9+line.length:=by rw[hL1,length_splice _ _ _ (by rw[HL0.o];simp;omega),HL0.o]
 obtain⟨h5,k7,hb5⟩:=row_step yx xI.o (KN.o.1) Yn.o
 have nD:=ae (HB4.o.trans (hb5.mono KN.o.2.2))
 have HL1:=ae (ag hL1 hl1)
 obtain⟨c5,f5,l5⟩:=af h5
 obtain⟨x2,g7⟩: ∃x,W5.cell? ⟨g,2,none⟩=some x:=⟨L1[2]'(by omega),by rw[(af k7).1 2];simp⟩
 obtain⟨_,f7,l7⟩:=af k7
 have H5:=ae (ag h5 k7)
 clear yx h5 k7 hb5 hL1 hl1 hcp c6 f6 l6 Yn HK6 xI HB4
 go_upto_region 5 with(fail)
 refine dN fun W6 Dl=>?_
 obtain⟨h6,k8,hb6⟩:=Dy Dl H5.o.2 KN.o.1 H5.o.1
 obtain⟨L2,hL2⟩: ∃L2,L2=L1.set 2 (uv c1):=⟨_,rfl⟩
 have hl2:L2.length=9+line.length:=by rw[hL2,qw,HL1.o.2]
 rw[<-hL2] at k8
 have pY:=ae (nD.o.trans (hb6.mono KN.o.2.2))
 have HL2:=ae (ag hL2 hl2)
 have H6:=ae (ag h6 k8)
 clear Dl h6 k8 hb6 hL2 hl2 c5 f5 l5 g7 f7 l7 H5 nD
 have hcq:(Builtin.copy_ #[25,9] 3 #[.slice (some ⟨g,3,none⟩) (9+line.length-3) (9+line.length-3),.string (dG line)]).run Tryz.prog W6= .ok (goInt line.length) (W6.setRow g (splice L2 3 (Lib.byteCells line)).toArray):=by
  have h:=Lib.run_copy_row_string (P:=Tryz.prog) W6 25 9 3 5 g 3 (9+line.length-3) (9+line.length-3) (dG line) L2.toArray 5 Tryz.underlying25 (by kernel_rfl) H6.o.2 (by rw[hsz];omega) (by rw[hsz];have:=HL2.o.2;simp;omega)
  rw[h,hsz]
  have e:L2.toArray.toList.take 3++Lib.byteCells (dG line).data.toList++L2.toArray.toList.drop (3+line.length)=splice L2 3 (Lib.byteCells line):=by
   unfold splice
   rw[HBL.o,jg]
  rw[e]
 go_upto_region 6 with(fail)
 refine dN fun W7 zB=>?_
 obtain⟨L3,hL3⟩: ∃L3,L3=splice L2 3 (Lib.byteCells line):=⟨_,rfl⟩
 rw[<-hL3] at zB
 have hl3:L3.length=9+line.length:=by rw[hL3,length_splice _ _ _ (by rw[HL2.o.2,HBL.o];omega),HL2.o.2]
 obtain⟨h7,k8,hb7⟩:=row_step zB H6.o.2 KN.o.1 H6.o.1
 have zU:=ae (pY.o.trans (hb7.mono KN.o.2.2))
 have HL3:=ae (ag hL3 hl3)
 have H7:=ae (ag h7 k8)
 clear zB h7 k8 hb7 hL3 hl3 hcq H6 pY
 go_upto_region 7 with(fail)
 rw[show 9+line.length-(3+line.length)=6 from by omega]
 obtain⟨c7,f7,l7⟩:=af H7.o.1
 obtain⟨c8,f8,l8⟩:=af H7.o.2
 obtain⟨x3,g3⟩: ∃x,W7.cell? ⟨g,3+line.length,none⟩=some x:=⟨L3[3+line.length]'(by have:=HL3.o.2;omega),by rw[c8 (3+line.length)];simp⟩
 clear c8
 go_upto_region 8 with(fail)
 refine dN fun W8 hW8=>?_
 obtain⟨h8,k8,hb8⟩:=Dy hW8 H7.o.2 KN.o.1 H7.o.1
 obtain⟨L4,hL4⟩: ∃L4,L4=L3.set (3+line.length) (uv c1):=⟨_,rfl⟩
 have hl4:L4.length=9+line.length:=by rw[hL4,qw,HL3.o.2]
 rw[<-hL4] at k8
 have oV:=ae (zU.o.trans (hb8.mono KN.o.2.2))
 have HL4:=ae (ag hL4 hl4)
 have H8:=ae (ag h8 k8)
 clear hW8 h8 k8 hb8 hL4 hl4 c7 f7 l7 f8 l8 g3 H7 zU
 have hct: ∀j v,[uv a,uv b,uv c,uv d][j]? =some v->W8.drew.cell? ((⟨t5,3,none⟩:Addr).add j)=some v:=fun j v hj=>by
  obtain⟨c5,_,_⟩:=af H8.o.1
  match j,hj with
  |0,hj=>exact(c5 3).trans hj
  |1,hj=>exact(c5 4).trans hj
  |2,hj=>exact(c5 5).trans hj
  |3,hj=>exact(c5 6).trans hj
 have hcr:(Builtin.copy_ #[25,25] 3 #[.slice (some ⟨g,3+line.length+1,none⟩) 5 5,.slice (some ⟨t5,3,none⟩) 4 4]).run Tryz.prog W8.drew= .ok (goInt 4) (W8.drew.setRow g (splice L4 (4+line.length) [uv a,uv b,uv c,uv d]).toArray):=by
  rw[show 3+line.length+1=4+line.length from by omega]
  have h:=run_copy_row (P:=Tryz.prog) W8.drew 25 25 3 5 g (4+line.length) 5 5 ⟨t5,3,none⟩ 4 4 L4.toArray 5 [uv a,uv b,uv c,uv d] Tryz.underlying25 (by kernel_rfl) H8.o.2 rfl hct (by have:=HL4.o.2;simp;omega) (by simp[uv,Value.oneCell'])
  rw[h,jg]
  rfl
 clear hct
 go_region
 go_upto_region 9 with(fail)
 refine dN fun W9 Md=>?_
 obtain⟨L5,hL5⟩: ∃L5,L5=splice L4 (4+line.length) [uv a,uv b,uv c,uv d]:=⟨_,rfl⟩
 rw[<-hL5] at Md
 have hl5:L5.length=9+line.length:=by rw[hL5,length_splice _ _ _ (by rw[HL4.o.2];simp;omega),HL4.o.2]
 obtain⟨h9,k9,wP⟩:=row_step (W:=W8.drew) Md H8.o.2 KN.o.1 H8.o.1
 have qQ:=ae (oV.o.drew.trans (wP.mono KN.o.2.2))
 have HL5:=ae (ag hL5 hl5)
 obtain⟨c5,f5,l5⟩:=af h9
 obtain⟨c8,f8,l8⟩:=af k9
 obtain⟨x5,g5⟩: ∃x,W9.cell? ⟨g,3+line.length+5,none⟩=some x:=⟨L5[3+line.length+5]'(by omega),by rw[c8 (3+line.length+5)];simp⟩
 have H9:=ae (ag h9 k9)
 clear Md h9 k9 wP hL5 hl5 hcr H8 oV c8
 go_upto_region 10 with(fail)
 refine dN fun TU ahC=>?_
 obtain⟨_,k10,Ap⟩:=Dy ahC H9.o.2 KN.o.1 H9.o.1
 have X0:=ae (qQ.o.trans (Ap.mono KN.o.2.2))
 have HF:Hid (TU.heap[g]? =some (.cells (Lib.byteCells (bP i line)).toArray 5 (0,0))):=by
  have e:=NW (a:=uv r) (b:=uv s) (c:=uv a) (d:=uv b) (e:=uv c) (f:=uv d) (x:=uv c1) (y:=uv c1) (z:=uv c3) (ln:=Lib.byteCells line) (Z:=L0) (by rw[HL0.o,HBL.o];omega)
  rw[HBL.o, <-HL1.o.1, <-HL2.o.1, <-HL3.o.1, <-HL4.o.1, <-HL5.o.1, <-HR.o] at e
  rw[show 3+line.length+5=8+line.length from by omega] at k10
  show _=_
  rw[k10, <-e]
 clear ahC k10 Ap c5 f5 l5 f8 l8 g5 H9 qQ
 go_wp2_with fail
 go_returns
 exact⟨X0.o,g,_,rfl,rfl,KN.o.2.2,HF.o⟩
theorem sS: ∀(ls:List az),(∀l∈ls,l.length<=60)->iD ls<=69*ls.length:=by
 intro ls
 induction ls with
 |nil=>intro _;exact ai _
 |cons l ls ih=>
  intro h
  have h1:=ih fun x hx=>h x (qZ _ hx)
  have h2:=h l List.mem_cons_self
  simp only[iD,List.length_cons]
  omega
theorem Dq {ls:List az} {k:Nat} (hk:k<ls.length):eQ 0 (ls.take (k+1))=eQ 0 (ls.take k)++bP k ls[k]:=by
 rw[iC hk,zQ,gU,Nat.zero_add,Nat.min_eq_left (by omega)]
theorem aaL (l:az):(Lib.byteCells l).toArray.size=l.length:=by simp[Lib.byteCells]
theorem bytes_at {W:World} {g n:Nat} {l:az} {t:TypeId} {fr:Nat×Nat} (h:W.heap[g]? =some (.cells (Lib.byteCells l).toArray t fr)) (hn:l.length=n) (hm:n<=maxLen):aN 1 W (.slice (some ⟨g,0,none⟩) n n) n (Lib.byteCells l):=
 aN.dB (cs:=(Lib.byteCells l).toArray) 1 n h (by rw[aaL,hn,Nat.mul_one]) hm
theorem Xq (l:az): ∀u∈Lib.byteCells l,u.oneCell'=true:=by
 intro u hu
 simp only[Lib.byteCells,jc] at hu
 obtain⟨x,_,rfl⟩:=hu
 rfl
def adB (l:az) (w:World) (e:Ending) (w':World):Prop:=Below w.heap.size w w'/\ ∃v,e= .returned v/\w'.ownsRow w.heap.size 5 1 v l.length (Lib.byteCells l)
theorem aaq (ls:List az) (v:Value) (w:World) (hv:iG w v ls) (hn:ls.length<=1000) (hl: ∀l∈ls,l.length<=60):Calls Tryz.prog 32 #[v] w (adB (uM ls) w):=by
 obtain⟨lo,lc,rfl⟩:=aN.open hv
 have HV:=ae hv
 have HL:=ae hl
 clear hv hl
 go_enter Tryz.func32,Tryz.ntmps32
 go_wp2_with fail
 go_loopw [2,7] (fun u i wr=> ∃k:Nat,k<=ls.length/\i= .int .i64 k/\Below w.heap.size w wr/\wr.ownsRow w.heap.size 5 1 u (eQ 0 (ls.take k)).length (Lib.byteCells (eQ 0 (ls.take k)))) (fun _ i _=>ls.length-(intOf i).toNat)
 case atStart=>exact⟨0,bQ _,rfl,aH _ _,⟨rfl,.inl ⟨rfl,rfl⟩⟩⟩
 case round=>
  obtain⟨k,hk,rfl,hB,how⟩:=hrel
  by_cases hlt:k<ls.length
  ·obtain⟨g1,f1,e1,r1,c1⟩:=qf (HV.o.below hB (ai _)) hlt
   have HB:=ae hB
   have HT:=ae (Dq hlt)
   have hll:=HL.o _ (dh hlt)
   have hs1:(eQ 0 (ls.take k)).length<=69*k:=by
    have h1:=sS (ls.take k) fun l h=>HL.o l (kP h)
    rw[gU,Nat.min_eq_left (by omega)] at h1
    rw[kJ]
    exact h1
   have HR:=ae (Q8 k ls[k] wr (by omega) hll)
   have HQ:=ae (iT k ls[k])
   obtain⟨x,hx⟩: ∃x,x=ls[k]:=⟨_,rfl⟩
   rw[<-hx] at c1 HR HT HQ hll
   clear hx
   generalize hA:eQ 0 (ls.take k)=A at*
   have hlo:=aW how
   obtain⟨oo,oc,rfl⟩:=hlo
   have HO:=ae how
   have Fb:(k:Int)<ls.length:=by omega
   cases e1
   clear hB how hA
   go_wp2_with fail
   refine HR.o.mono ?_
   rintro e W2 ⟨hb2,g,n,rfl,rfl,hg,hk2⟩
   have HB2:=ae (aY HB.o hb2)
   have Fh:=ae (aC (Ms:=[]) HO.o (Ext.aA hb2) (by simp))
   have HS2:Hid (aN 1 W2 (.slice (some ⟨g,0,none⟩) (9+x.length) (9+x.length)) (9+x.length) (Lib.byteCells (bP k x))):=ae (bytes_at hk2 HQ.o (by simp only[maxLen];omega))
   clear hb2 hk2 hg
   go_wp2_with (at_builtin;go_loud (refine fQ rfl _ _ QV rfl w.heap.size (.slice oo A.length oc) A.length (Lib.byteCells A) rfl Fh.o (.slice (some ⟨g,0,none⟩) (9+x.length) (9+x.length)) (9+x.length) (Lib.byteCells (bP k x)) rfl HS2.o (Xq _) (by omega) (by omega) HB2.o.size ?_))
   intro v' W3 hown hgr _
   have hB3:Below w.heap.size w W3:=Below.grown HB2.o hgr (by have:=HB2.o.size;omega) (fun g e=>(bD Fh.o g e).1)
   have HB3:=ae hB3
   have hown3:W3.ownsRow w.heap.size 5 1 v' (eQ 0 (ls.take (k+1))).length (Lib.byteCells (eQ 0 (ls.take (k+1)))):=by
    rw[HT.o,show Lib.byteCells (A++bP k x)=Lib.byteCells A++Lib.byteCells (bP k x) from by simp[Lib.byteCells],dm,HQ.o]
    exact hown
   have HO3:=ae hown3
   clear hown hgr hB3 hown3
   go_wp2_with fail
   go_roundw
   all_goals first
    |exact⟨k+1,by omega,by go_num,HB3.o,HO3.o⟩
    |(simp[intOf];omega)
  ·have hkl:k=ls.length:=by omega
   have HO:Hid (wr.ownsRow w.heap.size 5 1 u2 (uM ls).length (Lib.byteCells (uM ls))):=ae (by
    rw[hkl,List.take_length] at how
    exact how)
   have HB:=ae hB
   clear hB how
   go_wp2_with fail
   go_returns
   exact⟨HB.o,_,rfl,HO.o⟩
theorem tZ {ls:List az} (h:fC ls=0):ls.length<=40/\ ∀l∈ls,l.length<=60:=by
 unfold fC at h
 split at h
 ·omega
 ·rename_i hc
  refine⟨by omega,fun l hl=>?_⟩
  apply Classical.byContradiction
  intro hn
  exact hc (.inr (List.any_eq_true.2 ⟨l,hl,by simp;omega⟩))
def U6 (q:Int) (ls:List az) (w:World) (e:Ending) (w':World):Prop:=
 Below w.heap.size w w'/\((q≠0/\e= .returned (.tuple #[.slice none 0 0,iv q]))∨(q=0/\ ∃v,e= .returned (.tuple #[v,iv 0])/\w'.ownsRow w.heap.size 5 1 v (uM ls).length (Lib.byteCells (uM ls))))
theorem KH (ls:List az) (v:Value) (w:World) (hv:iG w v ls) (hln: ∀x∈ls,x.length<=1000000):Calls Tryz.prog 10 #[v] w (U6 (fC ls) ls w):=by
 have HF:=ae (Kr ls v w hv hln)
 have HW:Hid (fC ls=0-> ∀W,Below w.heap.size w W->Calls Tryz.prog 32 #[v] W (adB (uM ls) W)):=ae (fun h W hb=>aaq ls v W (hv.below hb (ai _)) (by have:=(tZ h).1;omega) (tZ h).2)
 obtain⟨lo,lc,rfl⟩:=aN.open hv
 clear hv
 obtain⟨q,hq⟩: ∃q,fC ls=q:=⟨_,rfl⟩
 rw[hq] at HF HW⊢
 have HQ:=ae hq
 clear hq
 go_enter Tryz.func10,Tryz.ntmps10
 go_wp2_with fail
 refine HF.o.mono ?_
 rintro e W1 ⟨rfl,hb1⟩
 have HB1:=ae hb1
 clear hb1
 by_cases hz:q=0
 ·subst hz
  go_wp2_with fail
  refine(HW.o (by trivial) W1 HB1.o).mono ?_
  rintro e W2 ⟨hb2,v2,rfl,ho⟩
  have HB2:=ae (aY HB1.o hb2)
  obtain⟨o2,c2,rfl⟩:=aW ho
  have HO:=ae (df ho HB1.o.size)
  clear hb2 ho
  go_wp2_with fail
  go_returns
  exact⟨HB2.o,.inr ⟨rfl,_,rfl,HO.o⟩⟩
 ·go_wp2_with fail
  go_returns
  exact⟨HB1.o,.inl ⟨hz,rfl⟩⟩
end Go.Proofs.YthllkbbbapgelaaGreatDoor.Bk
end
section
namespace Go.Proofs.YthllkbbbapgelaaGreatDoor.Bk
open Go.RowKit Go.RG Go.SL Go.Shelf jy Go.TB Go.Proofs.YthllkbbbapgelaaGreatDoor.AQ
theorem GH (ls:List az) (v:Value) (w:World) (hv:iG w v ls):Calls Tryz.prog 15 #[v] w (PV (iv (fC ls)) w):=by
 have hlen:=hv.len
 obtain⟨o,c,rfl⟩:=aN.open hv
 have HV:=ae hv
 clear hv
 by_cases h40:40<ls.length
 ·have aan:(40:Int)<ls.length:=by omega
  have HR:Hid (fC ls=3):=ae (by unfold fC;rw[aF (.inl h40)])
  go_enter Tryz.func15,Tryz.ntmps15
  go_wp2_with fail
  go_returns
  exact⟨by rw[HR.o];simp,aH _ _⟩
 ·have aan: ¬(40:Int)<ls.length:=by omega
  go_enter Tryz.func15,Tryz.ntmps15
  go_wp2_with fail
  go_loopw [3] (fun i wr=> ∃k:Nat,k<=ls.length/\i= .int .i64 k/\(∀j (h:j<ls.length),j<k->ls[j].length<=60)/\Below w.heap.size w wr) (fun i _=>ls.length-(intOf i).toNat)
  case atStart=>exact⟨0,bQ _,rfl,fun j _ hj=>by omega,aH _ _⟩
  case round=>
   obtain⟨k,hk,rfl,hno,hB⟩:=hrel
   by_cases hlt:k<ls.length
   ·obtain⟨b,off,rfl,hb,hc0⟩:=iG.cell (aN.below HV.o hB (ai _)) hlt
    have HN:=ae hno
    have HB:=ae hB
    have HK:=ae (fun h=>hno k hlt h)
    obtain⟨x,hx⟩: ∃x,ls[k]=x:=⟨_,rfl⟩
    rw[hx] at hc0
    have hs:(dG x).size=x.length:=jE x
    have HX:=ae hx
    clear hno hB hx
    by_cases h60:x.length<=60
    ·have aam: ¬(60:Int)<x.length:=by omega
     go_wp2_with fail
     go_roundw
     case rel=>exact⟨k+1,by omega,by go_num,fun j h hj=>(by by_cases e:j=k;(subst e;rw[HX.o];exact h60);exact HN.o j h (by omega)),HB.o⟩
     case measure=>simp[intOf];omega
    ·have aam:(60:Int)<x.length:=by omega
     go_wp2_with fail
     go_returns
     refine⟨?_,HB.o⟩
     have:fC ls=3:=by
      unfold fC
      rw[aF (.inr (List.any_eq_true.2 ⟨x,by rw[<-HX.o];exact dh _,by simp;omega⟩))]
     rw[this]
     simp
   ·have hkl:k=ls.length:=by omega
    have HN:=ae hno
    have HB:=ae hB
    clear hno hB
    go_wp2_with fail
    go_returns
    refine⟨?_,HB.o⟩
    have:fC ls=0:=by
     unfold fC
     rw[ak]
     simp only[not_or,Bool.not_eq_true]
     refine⟨h40,List.any_eq_false.2 fun x hx=>?_⟩
     obtain⟨j,hj,rfl⟩:=mF hx
     have:=HN.o j hj (by omega)
     simp;omega
    rw[this]
    simp
def Jv (ls:List az):Bool:=decide (ls.length<=45)&&ls.all fun x=>decide (x.length<=80)
theorem xO {ls:List az}:Jv ls=true↔ls.length<=45/\ ∀x∈ls,x.length<=80:=by
 unfold Jv
 rw[eG,eX,ku]
 exact⟨fun h=>⟨h.1,fun x hx=>of_decide_eq_true (h.2 x hx)⟩,fun h=>⟨h.1,fun x hx=>decide_eq_true (h.2 x hx)⟩⟩
theorem Qh (ls:List az) (v:Value) (w:World) (hv:iG w v ls):Calls Tryz.prog 8 #[v] w (PV (.bool (Jv ls)) w):=by
 have hlen:=hv.len
 obtain⟨o,c,rfl⟩:=aN.open hv
 have HV:=ae hv
 clear hv
 obtain⟨q,hq⟩: ∃q,Jv ls=q:=⟨_,rfl⟩
 rw[hq]
 have HQ:=ae hq
 clear hq
 go_enter Tryz.func8,Tryz.ntmps8
 go_wp2_with fail
 go_loopw [3] (fun i wr=> ∃k:Nat,k<=ls.length/\k<=46/\i= .int .i64 k/\(∀j (h:j<ls.length),j<k->ls[j].length<=80)/\Below w.heap.size w wr) (fun i _=>ls.length-(intOf i).toNat)
 case atStart=>exact⟨0,bQ _,bQ _,rfl,fun j _ hj=>by omega,aH _ _⟩
 case round=>
  obtain⟨k,hk,h46,rfl,hno,hB⟩:=hrel
  have HB:=ae hB
  have HN:=ae hno
  by_cases hlt:k<ls.length
  ·by_cases aoB:k<46
   ·have ag5:(k:Int)<46:=by omega
    obtain⟨b,off,rfl,hb,hc0⟩:=iG.cell (aN.below HV.o hB (ai _)) hlt
    obtain⟨x,hx⟩: ∃x,ls[k]=x:=⟨_,rfl⟩
    rw[hx] at hc0
    have hs:(dG x).size=x.length:=jE x
    have HX:=ae hx
    clear hno hB hx
    by_cases h60:x.length<=80
    ·have aam: ¬(80:Int)<x.length:=by omega
     go_wp2_with fail
     go_roundw
     case rel=>exact⟨k+1,by omega,by omega,by go_num,fun j h hj=>(by by_cases e:j=k;(subst e;rw[HX.o];exact h60);exact HN.o j h (by omega)),HB.o⟩
     case measure=>simp[intOf];omega
    ·have aam:(80:Int)<x.length:=by omega
     have hq0:q=false:=by
      rw[<-HQ.o,Bool.eq_false_iff]
      intro h
      exact h60 ((xO.1 h).2 x (by rw[<-HX.o];exact dh _))
     subst hq0
     go_wp2_with fail
     go_returns
     exact⟨by simp,HB.o⟩
   ·have ag5: ¬(k:Int)<46:=by omega
    have hq0:q=false:=by
     rw[<-HQ.o,Bool.eq_false_iff]
     intro h
     have:=(xO.1 h).1
     omega
    have h45: ¬(ls.length:Int)<=45:=by omega
    subst hq0
    clear hno hB
    go_wp2_with fail
    go_returns
    exact⟨by simp,HB.o⟩
  ·have hkl:k=ls.length:=by omega
   clear hno hB
   by_cases h45:ls.length<=45
   ·have akZ:(ls.length:Int)<=45:=by omega
    have hq1:q=true:=by
     rw[<-HQ.o]
     refine xO.2 ⟨h45,fun x hx=>?_⟩
     obtain⟨j,hj,rfl⟩:=mF hx
     exact HN.o j hj (by omega)
    subst hq1
    go_wp2_with fail
    go_returns
    exact⟨by simp,HB.o⟩
   ·have akZ: ¬(ls.length:Int)<=45:=by omega
    have hq0:q=false:=by
     rw[<-HQ.o,Bool.eq_false_iff]
     intro h
     exact h45 (xO.1 h).1
    subst hq0
    go_wp2_with fail
    go_returns
    exact⟨by simp,HB.o⟩
theorem Ut:iQ Tryz.prog 22 9 (.string ⟨#[]⟩) 1 16:=⟨Tryz.underlying22,by kernel_rfl,rfl,by omega⟩
end Go.Proofs.YthllkbbbapgelaaGreatDoor.Bk
end
section
namespace Go.Proofs.YthllkbbbapgelaaGreatDoor.Bk
open Go.Lib Go.RowKit Go.RG Go.SL Go.Shelf jy Go.TB Go.Proofs.YthllkbbbapgelaaGreatDoor.AQ
theorem aa1: ∀(n:Nat) (w:World),n<=100000->Calls Tryz.prog 62 #[iv n] w (PV (.string (dG (decDigits n))) w):=by
 intro n
 induction n using Nat.strongRecOn with
 |_ n ih=>
  intro w hn
  by_cases h:n<10
  ·rw[kK h]
   have hI:(n:Int)<10:=by omega
   have hw:IntKind.u8.wrap (48+(n:Int))=48+(n:Int):=by
    have hb:(2:Int)^IntKind.u8.bits=256:=by decide
    simp only[IntKind.wrap,hb,show IntKind.u8.signed=false from rfl,Bool.false_and,Bool.false_eq_true,if_false];omega
   have hd:((zH n).toNat:Int)=48+(n:Int):=by rw[lN h];omega
   have hcv:(convert 25 9 (.slice (some ⟨w.heap.size,0,none⟩) 1 1)).run Tryz.prog (w.alloc (.cells #[.int .u8 (48+(n:Int))] 5))= .ok (.string (dG [zH n])) (w.alloc (.cells #[.int .u8 (48+(n:Int))] 5)):=run_convert_bytes_back _ _ _ 5 ⟨w.heap.size,0,none⟩ 1 [zH n] Tryz.underlying25 Tryz.underlying5 Tryz.underlying9 (fun j hj=>by
    obtain rfl:j=0:=by simpa using hj
    simp only[List.getElem_cons_zero,hd]
    simp[Addr.add])
   generalize zH n=c at*
   clear ih
   go_enter Tryz.func62,Tryz.ntmps62
   go_wp2_with fail
   go_returns
   exact⟨by simp,aj (aH _ _) _⟩
  ·rw[wU h]
   have h1:=ae (fun W=>ih (n/10) (by omega) W (by omega))
   have h2:=ae (fun W=>ih (n%10) (by omega) W (by omega))
   have hI: ¬(n:Int)<10:=by omega
   have e1:(n:Int).tdiv 10=((n/10:Nat):Int):=by rw[Int.tdiv_eq_ediv_of_nonneg (by omega)];omega
   have e2:(n:Int).tmod 10=((n%10:Nat):Int):=by rw[Int.tmod_eq_emod_of_nonneg (by omega)];omega
   have hd2:decDigits (n%10)=[zH (n%10)]:=kK (by omega)
   have hl:=MK 4 (n/10) (by omega)
   rw[hd2] at h2
   have ha:n/10<=10000:=by omega
   have hb:n%10<10:=by omega
   clear ih
   generalize n/10=a at*
   generalize n%10=b at*
   go_enter Tryz.func62,Tryz.ntmps62
   go_wp2_with fail
   refine(h1.o w).mono ?_
   rintro e W1 ⟨rfl,hB⟩
   have HB1:=ae hB
   clear hB
   go_wp2_with fail
   refine(h2.o W1).mono ?_
   rintro e W2 ⟨rfl,hB⟩
   have HB2:=ae (aY HB1.o hB)
   clear hB
   have hadd:=fun W=>jP (P:=Tryz.prog) (a:=decDigits a) (b:=[zH b]) rfl (by simp;omega) W
   go_wp2_with fail
   go_returns
   exact⟨by simp[qO],HB2.o⟩
theorem Ed: ∀(m n:Nat) (w:World),m<=4->n<=100000->Calls Tryz.prog 34 #[iv n,iv m] w (PV (.string (dG (jY n m))) w):=by
 intro m
 induction m with
 |zero=>
  intro n w _ _
  go_enter Tryz.func34,Tryz.ntmps34
  go_wp2_with fail
  go_returns
  exact⟨rfl,aH _ _⟩
 |succ m ih=>
  intro n w hm hn
  have h1:=ae (fun W=>ih (n/10) W (by omega) (by omega))
  have h2:=ae (fun W=>aa1 (n%10) W (by omega))
  have hd:jY n (m+1)=jY (n/10) m++[zH (n%10)]:=rfl
  have hl:=iU m (n/10)
  rw[hd]
  have e0: ¬((m:Int)+1=0):=by omega
  have e1:(n:Int).tdiv 10=((n/10:Nat):Int):=by rw[Int.tdiv_eq_ediv_of_nonneg (by omega)];omega
  have e2:(n:Int).tmod 10=((n%10:Nat):Int):=by rw[Int.tmod_eq_emod_of_nonneg (by omega)];omega
  rw[show decDigits (n%10)=[zH (n%10)] from kK (by omega)] at h2
  have hb:n%10<10:=by omega
  have ha:n/10<=10000:=by omega
  have em:((m+1:Nat):Int)=(m:Int)+1:=by omega
  have em1:(m:Int)+1-1=m:=by omega
  rw[em]
  clear ih hd em
  generalize n/10=a at*
  generalize n%10=b at*
  go_enter Tryz.func34,Tryz.ntmps34
  go_wp2_with fail
  refine(h1.o w).mono ?_
  rintro e W1 ⟨rfl,hB⟩
  have HB1:=ae hB
  clear hB
  go_wp2_with fail
  refine(h2.o W1).mono ?_
  rintro e W2 ⟨rfl,hB⟩
  have HB2:=ae (aY HB1.o hB)
  clear hB
  have hadd:=fun W=>jP (P:=Tryz.prog) (a:=jY a m) (b:=[zH b]) rfl (by simp;omega) W
  go_wp2_with fail
  go_returns
  exact⟨by simp[qO],HB2.o⟩
theorem Rj (i:Nat) (line:az) (w:World) (hi:i<=1000) (hl:line.length<=60):Calls Tryz.prog 35 #[iv i,.string (dG line)] w (PV (iv (iE i line)) w):=by
 have hsz:=jE line
 go_enter Tryz.func35,Tryz.ntmps35
 go_wp2_with fail
 go_loopw [5,6] (fun s u wr=> ∃j:Nat,j<=line.length/\u= .int .i64 j/\s= .int .i64 ((29*(i+1)+iy 2 (line.take j):Nat):Int)/\Below w.heap.size w wr) (fun _ u _=>line.length-(intOf u).toNat)
 case atStart=>exact⟨0,bQ _,rfl,by simp[iy];try omega,aH _ _⟩
 case round=>
  obtain⟨j,hj,rfl,rfl,hb⟩:=hrel
  by_cases hlt:j<line.length
  ·have hle:=uP (line.take j) 2 (by simp;omega)
   have hlj:(line.take j).length=j:=by simp;omega
   rw[hlj] at hle
   obtain⟨c,hc⟩: ∃c,line[j]=c:=⟨_,rfl⟩
   have hcx:(dG line)[j]'(by rw[hsz];exact hlt)=c:=by rw[<-hc];rfl
   have hcl:=c.toNat_lt
   have hmul:(j+2)*c.toNat<=62*255:=Nat.mul_le_mul (by omega) (by omega)
   have hst:iy 2 (line.take (j+1))=iy 2 (line.take j)+(2+j)*c.toNat:=by
    rw[iC hlt,zT,hlj,hc]
   have HST:=ae hst
   generalize hS:iy 2 (line.take j)=S at*
   obtain⟨m,hm⟩: ∃m,(j+2)*c.toNat=m:=⟨_,rfl⟩
   have hmI:((j:Int)+2)*(c.toNat:Int)=(m:Int):=by rw[<-hm];simp
   have HM:Hid ((2+j)*c.toNat=m):=ae (by rw[<-hm,Nat.add_comm])
   rw[hm] at hmul
   have aeC:S<=948600:=by omega
   have w1:wrap64 (m:Int)=m:=aaJ m hmul
   have w2:wrap64 (29*((i:Int)+1)+S+m)=29*((i:Int)+1)+S+m:=aaI i S m hi aeC hmul
   clear hst hS hlj hc hm
   go_wp2_with fail
   refine⟨⟨j+1,by omega,by go_num,?_,hb⟩,by simp[intOf];omega⟩
   rw[HST.o,HM.o]
   congr 1
   omega
  ·have hjl:j=line.length:=by omega
   subst hjl
   have hle:=uP line 2 (by omega)
   rw[List.take_length]
   have HC:Hid (((29*(i+1)+iy 2 line:Nat):Int)%9949=(iE i line:Nat)):=ae (by unfold iE;omega)
   obtain⟨S,hS⟩: ∃S,29*(i+1)+iy 2 line=S:=⟨_,rfl⟩
   rw[hS] at HC⊢
   clear hle hS
   go_wp2_with fail
   go_returns
   exact⟨by simp[HC.o],hb⟩
theorem xY (i:Nat) (line:az) (w:World) (hi:i<=1000) (hl:line.length<=60):Calls Tryz.prog 17 #[iv i,.string (dG line)] w (PV (.string (dG (bP i line))) w):=by
 have hsz:=jE line
 have h1:=ae (fun W=>Ed 2 line.length W (by omega) (by omega))
 have h2:=ae (fun W=>Rj i line W hi hl)
 have hck:=zo i line
 have h3:=ae (fun W=>Ed 4 (iE i line) W (by omega) (by omega))
 have l1:=iU 2 line.length
 have l2:=iU 4 (iE i line)
 have hr:bP i line=((((jY line.length 2++[58])++line)++[58])++jY (iE i line) 4)++[10]:=by simp[bP]
 rw[hr]
 generalize jY line.length 2=d2 at*
 generalize jY (iE i line) 4=d4 at*
 generalize iE i line=ck at*
 have a1:=fun W=>jP (P:=Tryz.prog) (a:=d2) (b:=[58]) rfl (by simp;omega) W
 have a2:=fun W=>jP (P:=Tryz.prog) (a:=d2++[58]) (b:=line) rfl (by simp;omega) W
 have a3:=fun W=>jP (P:=Tryz.prog) (a:=(d2++[58])++line) (b:=[58]) rfl (by simp;omega) W
 have a4:=fun W=>jP (P:=Tryz.prog) (a:=((d2++[58])++line)++[58]) (b:=d4) rfl (by simp;omega) W
 have a5:=fun W=>jP (P:=Tryz.prog) (a:=(((d2++[58])++line)++[58])++d4) (b:=[10]) rfl (by simp;omega) W
 obtain⟨q1,e1⟩: ∃q,d2++[58]=q:=⟨_,rfl⟩
 rw[e1] at a1 a2 a3 a4 a5⊢
 obtain⟨q2,e2⟩: ∃q,q1++line=q:=⟨_,rfl⟩
 rw[e2] at a2 a3 a4 a5⊢
 obtain⟨q3,e3⟩: ∃q,q2++[58]=q:=⟨_,rfl⟩
 rw[e3] at a3 a4 a5⊢
 obtain⟨q4,e4⟩: ∃q,q3++d4=q:=⟨_,rfl⟩
 rw[e4] at a4 a5⊢
 obtain⟨q5,e5⟩: ∃q,q4++[10]=q:=⟨_,rfl⟩
 rw[e5] at a5⊢
 clear hr e1 e2 e3 e4 e5
 go_enter Tryz.func17,Tryz.ntmps17
 go_wp2_with fail
 refine(h1.o w).mono ?_
 rintro e W1 ⟨rfl,hB⟩
 have HB1:=ae hB
 clear hB
 go_wp2_with fail
 refine(h2.o W1).mono ?_
 rintro e W2 ⟨rfl,hB⟩
 have HB2:=ae (aY HB1.o hB)
 clear hB
 go_wp2_with fail
 refine(h3.o W2).mono ?_
 rintro e W3 ⟨rfl,hB⟩
 have HB3:=ae (aY HB2.o hB)
 clear hB
 go_wp2_with fail
 go_returns
 exact⟨by simp,HB3.o⟩
theorem JK (ls:List az) (v:Value) (w:World) (hv:iG w v ls) (hn:ls.length<=1000) (hl: ∀l∈ls,l.length<=60):Calls Tryz.prog 16 #[v] w (PV (.string (dG (uM ls))) w):=by
 obtain⟨lo,lc,rfl⟩:=aN.open hv
 have HV:=ae (fun W (hb:Below w.heap.size w W)=>hv.below hb (ai _))
 have HL:=ae hl
 clear hv hl
 go_enter Tryz.func16,Tryz.ntmps16
 go_wp2_with fail
 go_loopw [3,4] (fun s i wr=> ∃k:Nat,k<=ls.length/\i= .int .i64 k/\s= .string (dG (eQ 0 (ls.take k)))/\Below w.heap.size w wr) (fun _ i _=>ls.length-(intOf i).toNat)
 case atStart=>exact⟨0,bQ _,rfl,rfl,aH _ _⟩
 case round=>
  obtain⟨k,hk,rfl,rfl,hB⟩:=hrel
  have HB:=ae hB
  by_cases hlt:k<ls.length
  ·obtain⟨b,off,rfl,hb,hc0⟩:=qf (HV.o wr hB) hlt
   have htk:=Dq hlt
   have hx6:ls[k].length<=60:=HL.o _ (dh hlt)
   obtain⟨x,hx⟩: ∃x,ls[k]=x:=⟨_,rfl⟩
   rw[hx] at hc0 htk hx6
   have hfl:(eQ 0 (ls.take k)).length<=69000:=by
    rw[kJ]
    have:=sS (ls.take k) fun l hl=>HL.o l (kP hl)
    have hj:(ls.take k).length<=1000:=by simp;omega
    omega
   have hrl:=iT k x
   have HR:=ae (fun W=>xY k x W (by omega) hx6)
   have HTK:=ae htk
   generalize eQ 0 (ls.take k)=f at*
   generalize bP k x=r at*
   have hadd:=fun W=>jP (P:=Tryz.prog) (a:=f) (b:=r) rfl (by omega) W
   clear htk hx hB
   go_wp2_with fail
   refine(HR.o wr).mono ?_
   rintro e W2 ⟨rfl,hB⟩
   have HB2:=ae (aY HB.o hB)
   clear hB
   go_wp2_with fail
   refine⟨⟨k+1,by omega,by go_num,by first|(rw[HTK.o];done)|(rw[HTK.o];simp[qO]),HB2.o⟩,by simp[intOf];omega⟩
  ·have hkl:k=ls.length:=by omega
   subst hkl
   rw[List.take_length]
   go_wp2_with fail
   go_returns
   exact⟨by simp[uM],HB.o⟩
theorem BytesAt.from {w:World} {o:Option Addr} {l:az} {c:Nat} (h:aN 1 w (.slice o l.length c) l.length (Lib.byteCells l)) {a:Nat} (ha:a<=l.length) {x:Int} (hx:x=a):
 ∃so sc,(∀W,(Instr.slice 25 (.slice o l.length c) (some (iv x)) none none).run Tryz.prog W= .ok (.slice so (l.drop a).length sc) W)/\aN 1 w (.slice so (l.drop a).length sc) (l.drop a).length (Lib.byteCells (l.drop a)):=by
 subst hx
 obtain⟨so,sc,h1,h2⟩:=aaD (P:=Tryz.prog) 25 uB szB (o:=o) (c:=c) ha
 have h3:=aN.cut h ha (ai _)
 rw[h2,Dz,List.take_length] at h3
 rw[lG]
 exact⟨so,sc,h1,h3⟩
theorem BytesAt.mid {w:World} {o:Option Addr} {l:az} {c:Nat} (h:aN 1 w (.slice o l.length c) l.length (Lib.byteCells l)) {a k:Nat} (ha:a<=k) (hk:k<=l.length) {x y:Int} (hx:x=a) (hy:y=k):
 ∃so sc,(∀W,(Instr.slice 25 (.slice o l.length c) (some (iv x)) (some (iv y)) none).run Tryz.prog W= .ok (.slice so (k-a) sc) W)/\aN 1 w (.slice so (k-a) sc) (k-a) (Lib.byteCells ((l.take k).drop a)):=by
 subst hx hy
 have hc:l.length<=c:=by obtain⟨_,o',c',hv,h1,_⟩:=h;cases hv;exact h1
 obtain⟨so,sc,h1,h2⟩:=acB (P:=Tryz.prog) 25 uB szB (o:=o) (n:=l.length) (c:=c) ha (iW hk hc)
 have h3:=aN.cut h ha hk
 rw[h2,Dz] at h3
 exact⟨so,sc,h1,h3⟩
theorem BytesAt.to {w:World} {o:Option Addr} {l:az} {c:Nat} (h:aN 1 w (.slice o l.length c) l.length (Lib.byteCells l)) {k:Nat} (hk:k<=l.length) {x:Int} (hx:x=k):
 ∃so sc,(∀W,(Instr.slice 25 (.slice o l.length c) none (some (iv x)) none).run Tryz.prog W= .ok (.slice so k sc) W)/\aN 1 w (.slice so k sc) k (Lib.byteCells (l.take k)):=by
 subst hx
 have hc:l.length<=c:=by obtain⟨_,o',c',hv,h1,_⟩:=h;cases hv;exact h1
 obtain⟨so,sc,h1,h2⟩:=aaC (P:=Tryz.prog) 25 uB szB (o:=o) (n:=l.length) (c:=c) (iW hk hc)
 have h3:=aN.cut h (bQ _) hk
 rw[h2,Dz,List.drop_zero] at h3
 exact⟨so,sc,h1,h3⟩
def Xl (b:az):Nat->Nat
 |0=>0
 |k+1=>Xl b k*10+((b.getD k 0).toNat-48)
theorem Ot {b:az} (h: ∀j,j<2->jZ (b.getD j 0)=true):qC b=some (Xl b 2):=by
 unfold qC
 rw[h 0 (by omega),h 1 (by omega)]
 simp[Xl]
 omega
theorem GI {b:az} {k:Nat} (hk:k<2) (h:jZ (b.getD k 0)=false):qC b=none:=by
 unfold qC
 rw[ak]
 intro hc
 rw[eG] at hc
 have:k=0∨k=1:=by omega
 rcases this with rfl|rfl
 ·rw[hc.1] at h;cases h
 ·rw[hc.2] at h;cases h
theorem aeO (b:az): ∀k,k<=2->Xl b k<=3000:=by
 intro k hk
 have h0:=(b.getD 0 0).toNat_lt
 have h1:=(b.getD 1 0).toNat_lt
 match k,hk with
 |0,_=>simp[Xl]
 |1,_=>simp only[Xl];omega
 |2,_=>simp only[Xl];omega
def alf (b:az) (w:World) (e:Ending) (W:World):Prop:=
 Below w.heap.size w W/\((qC b=none/\e= .returned (.tuple #[iv 0,.bool false]))∨ ∃n,qC b=some n/\n<=3000/\e= .returned (.tuple #[iv n,.bool (decide (n<=60))]))
theorem RN (b:az) (v:Value) (w:World) (hv:aN 1 w v b.length (Lib.byteCells b)) (h2:2<=b.length):Calls Tryz.prog 109 #[v] w (alf b w):=by
 obtain⟨o,c,rfl⟩:=aN.open hv
 obtain⟨so,sc,hsl,hs⟩:=BytesAt.to hv h2 (x:=2) rfl
 have HS:=ae hs
 clear hv hs
 go_enter Tryz.func109,Tryz.ntmps109
 go_wp2_with fail
 go_loopw [4,10] (fun u i wr=> ∃k:Nat,k<=2/\i= .int .i64 k/\u= .int .i64 (Xl b k:Nat)/\(∀j,j<k->jZ (b.getD j 0)=true)/\Below w.heap.size w wr) (fun _ i _=>2-(intOf i).toNat)
 case atStart=>exact⟨0,bQ _,rfl,rfl,fun j hj=>absurd hj (Nat.not_lt_zero _),aH _ _⟩
 case round=>
  obtain⟨k,hk,rfl,rfl,hd,hB⟩:=hrel
  have HB:=ae hB
  have HD:=ae hd
  have hdl:=aeO b k hk
  by_cases hlt:k<2
  ·have htl:(b.take 2).length=2:=by simp;omega
   obtain⟨g,off,rfl,hg,hc⟩:=BytesAt.cell (l:=b.take 2) (aN.below HS.o hB (ai _)) (k:=k) (by omega)
   have hck:(b.take 2)[k]'(by omega)=b.getD k 0:=by rw[List.getElem_take,getD_eq (by omega)]
   rw[hck] at hc
   obtain⟨m,hm⟩: ∃m,(b.getD k 0).toNat=m:=⟨_,rfl⟩
   have hm9:m<=255:=by have:=(b.getD k 0).toNat_lt;omega
   have hst:Xl b (k+1)=Xl b k*10+(m-48):=by rw[Xl,hm]
   have hdg:jZ (b.getD k 0)=(decide (48<=m)&&decide (m<=57)):=by unfold jZ;rw[hm]
   rw[hm] at hc
   have HST:=ae hst
   have HDG:=ae hdg
   generalize Xl b k=d at*
   clear hst hdg hd hck htl hm hB
   by_cases h1:m<48
   ·have h1':(m:Int)<48:=by omega
    go_wp2_with fail
    go_returns
    exact⟨HB.o,.inl ⟨GI hlt (by rw[HDG.o,decide_eq_false (by omega),Bool.false_and]),rfl⟩⟩
   ·by_cases h2':57<m
    ·have h3: ¬(m:Int)<48:=by omega
     have h4:(57:Int)<m:=by omega
     go_wp2_with fail
     go_returns
     exact⟨HB.o,.inl ⟨GI hlt (by rw[HDG.o,decide_eq_false (p:=m<=57) (by omega),Bool.and_false]),rfl⟩⟩
    ·have h3: ¬(m:Int)<48:=by omega
     have h4: ¬(57:Int)<m:=by omega
     have hw8:IntKind.u8.wrap ((m:Int)-48)=((m-48:Nat):Int):=by
      have hb:(2:Int)^IntKind.u8.bits=256:=by decide
      simp only[IntKind.wrap,hb,show IntKind.u8.signed=false from rfl,Bool.false_and,Bool.false_eq_true,if_false];omega
     have hw9:wrap64 ((d:Int)*10+((m-48:Nat):Int))=((d*10+(m-48):Nat):Int):=by rw[IntWalk.wrap64_in _ ⟨by omega,by omega⟩];omega
     go_wp2_with fail
     refine⟨⟨k+1,by omega,by go_num,?_,?_,HB.o⟩,by simp[intOf];omega⟩
     ·rw[HST.o]
      try rfl
     ·intro j hj
      by_cases hjk:j<k
      ·exact HD.o j hjk
      ·obtain rfl:j=k:=by omega
       rw[HDG.o,decide_eq_true (by omega),decide_eq_true (by omega)];rfl
  ·obtain rfl:k=2:=by omega
   have hy:=Ot hd
   have HY:=ae hy
   generalize Xl b 2=d at*
   clear hy hd HD hB
   go_wp2_with fail
   go_returns
   exact⟨HB.o,.inr ⟨d,HY.o,hdl,by simp;omega⟩⟩
abbrev yP (l:List Int):List Value:=l.map (fun x=>Value.int .u8 x)
theorem xn {P:Program} (w:World) (d:Nat) (t e:TypeId) (n:Nat) (ht:P.underlying t=some (.array n e)) (he:P.underlying e=some (.int .u8)) (hsz: ∀w,(sizeOf e).run P w= .ok 1 w)
 (xs ys:List Int) (hx:xs.length=n) (hy:ys.length=n):
 (Op.equalIn (d+2) t (.agg (yP xs).toArray) (.agg (yP ys).toArray)).run P w= .ok (xs==ys) w:=by
 rw[<-ui xs ys (hx.trans hy.symm),hx,List.range_eq_range',Op.equalIn]
 simp only[Sem.run_bind,run_underlying ht,Result.andThen_ok,hsz,Std.Legacy.Range.forIn_eq_forIn_range',Std.Legacy.Range.size,Nat.sub_zero,Nat.add_sub_cancel,Nat.div_one]
 have hl: ∀i∈List.range' 0 n 1,i<n:=fun i hi=>by simpa using(List.mem_range'_1.1 hi).2
 generalize List.range' 0 n 1=l at hl⊢
 induction l with
 |nil=>simp
 |cons i l ih=>
  have hi:i<n:=hl i (by simp)
  have px:(part e (yP xs).toArray (i*1)).run P w= .ok (.int .u8 (xs.getD i 0)) w:=by
   simp[part,isAgg,run_underlying he,yP,List.getD,dw (show i<xs.length by omega)]
  have py:(part e (yP ys).toArray (i*1)).run P w= .ok (.int .u8 (ys.getD i 0)) w:=by
   simp[part,isAgg,run_underlying he,yP,List.getD,dw (show i<ys.length by omega)]
  have pe:(Op.equalIn (d+1) e (.int .u8 (xs.getD i 0)) (.int .u8 (ys.getD i 0))).run P w= .ok (xs.getD i 0==ys.getD i 0) w:=run_equalIn_int w d e .u8 .u8 _ _ he
  simp only[List.forIn_cons,Sem.run_bind,px,py,pe,Result.andThen_ok,List.all_cons]
  cases hb:(xs.getD i 0==ys.getD i 0)
  ·simp
  ·simp only[Bool.not_true,Bool.false_eq_true,if_false,Sem.run_pure,Result.andThen_ok,Bool.true_and]
   exact ih fun j hj=>hl j (by simp[hj])
theorem O7 (l m:az):(l.map (fun(c:UInt8)=>(c.toNat:Int))==m.map (fun(c:UInt8)=>(c.toNat:Int)))=(l==m):=by
 rw[Bool.eq_iff_iff,beq_iff_eq,beq_iff_eq]
 refine⟨fun h=>?_,fun h=>by rw[h]⟩
 have hi: ∀a b:UInt8,(a.toNat:Int)=(b.toNat:Int)->a=b:=fun a b h=>UInt8.toNat_inj.1 (by omega)
 exact(List.map_inj_right hi).1 h
def ae4 (i:Nat) (b:az) (w:World) (e:Ending) (W:World):Prop:=
 Below w.heap.size w W/\ ∃s is,e= .returned (.tuple #[.string s,.bool is])/\((is=true/\ ∃l,oZ i b=some l/\s=dG l)∨(is=false/\oZ i b=none))
theorem Lp {w W1:World} {A:Array Value} {t:TypeId} (h:W1=(w.alloc (.cells A t)).drew):
 Below w.heap.size w W1/\W1.heap[w.heap.size]? =some (.cells A t (0,0)):=by
 subst h
 exact⟨qG (aj (aH _ _) _),ay _ _⟩
theorem Vj (i:Nat) (b:az) (v:Value) (w:World) (hv:aN 1 w v b.length (Lib.byteCells b)) (hi:i<=1000) (hb:b.length<=1000000000):Calls Tryz.prog 61 #[iv i,v] w (ae4 i b w):=by
 obtain⟨o,c,rfl⟩:=aN.open hv
 have HV:=ae (fun W (hb:Below w.heap.size w W)=>hv.below hb (ai _))
 clear hv
 go_enter Tryz.func61,Tryz.ntmps61
 by_cases h9:b.length<9
 ·have h9':(b.length:Int)<9:=by omega
  go_wp2_with fail
  go_returns
  exact⟨aH _ _,_,_,rfl,.inr ⟨rfl,by unfold oZ;rw[aF h9]⟩⟩
 have h9': ¬(b.length:Int)<9:=by omega
 have HL:=ae (RN b _ w (HV.o w (aH _ _)) (by omega))
 go_wp2_with fail
 refine HL.o.mono ?_
 rintro e W1 ⟨hb1,⟨hn,rfl⟩|⟨n,hn,hn3,rfl⟩⟩
 ·have HB1:=ae hb1
  have HN:=ae hn
  clear hb1 hn
  go_wp2_with fail
  go_returns
  exact⟨HB1.o,_,_,rfl,.inr ⟨rfl,by unfold oZ;rw[ak h9,HN.o]⟩⟩
 have HB1:=ae hb1
 have HN:=ae hn
 clear hb1 hn HL
 by_cases h60:n<=60
 rotate_left
 ·rw[decide_eq_false h60]
  go_wp2_with fail
  go_returns
  exact⟨HB1.o,_,_,rfl,.inr ⟨rfl,by unfold oZ;rw[ak h9,HN.o];simp only;rw[aF (.inl (by omega))]⟩⟩
 rw[decide_eq_true h60]
 by_cases hbn:b.length<9+n
 ·have akD:(b.length:Int)<3+(n:Int)+6:=by omega
  go_wp2_with fail
  go_returns
  exact⟨HB1.o,_,_,rfl,.inr ⟨rfl,by unfold oZ;rw[ak h9,HN.o];simp only;rw[aF (.inr hbn)]⟩⟩
 have akD: ¬(b.length:Int)<3+(n:Int)+6:=by omega
 have hv1:=HV.o W1 HB1.o
 obtain⟨s1,q1,e1,t1⟩:=BytesAt.mid hv1 (a:=3) (k:=3+n) (by omega) (by omega) (x:=3) (y:=3+(n:Int)) rfl (by omega)
 obtain⟨s2,q2,e2,t2⟩:=BytesAt.from hv1 (a:=3+n) (by omega) (x:=3+(n:Int)) (by omega)
 rw[show 3+n-3=n from by omega] at t1
 simp only[show 3+n-3=n from by omega] at e1
 have hln:((b.take (3+n)).drop 3).length=n:=by simp;omega
 have hlt:(b.take (3+n)).drop 3=(b.drop 3).take n:=by rw[List.drop_take];congr 1;omega
 have c1:=wV (W:=W1) (o:=s1) (n:=n) (c:=q1) (l:=(b.take (3+n)).drop 3) t1
 have c2:=wV (W:=W1.drew) (o:=s1) (n:=n) (c:=q1) (l:=(b.take (3+n)).drop 3) (aN.below t1 (qG (aH W1.heap.size W1)) (ai _))
 have hdl:(b.drop (3+n)).length=b.length-(3+n):=by simp
 obtain⟨s3,q3,e3,t3⟩:=BytesAt.mid t2 (a:=1) (k:=5) (by omega) (by omega) (x:=1) (y:=5) rfl rfl
 obtain⟨g1,f1,rfl,hg1,z1⟩:=BytesAt.cell hv1 (k:=2) (by omega)
 obtain⟨g2,f2,rfl,hg2,z2⟩:=BytesAt.cell t2 (k:=0) (by omega)
 obtain⟨_,_,hq,_,z3⟩:=BytesAt.cell t2 (k:=5) (by omega)
 cases hq
 obtain⟨x0,x1,x2,x3,hX⟩: ∃x0 x1 x2 x3,((b.drop (3+n)).take 5).drop 1=[x0,x1,x2,x3]:=by
  have h4:(((b.drop (3+n)).take 5).drop 1).length=4:=by simp;omega
  match hq:((b.drop (3+n)).take 5).drop 1,h4 with
  |[a,b,c,d],_=>exact⟨a,b,c,d,rfl⟩
 rw[hX] at t3
 obtain⟨g3,f3,rfl,hg3,y0⟩:=BytesAt.cell (l:=[x0,x1,x2,x3]) t3 (k:=0) (by simp)
 obtain⟨_,_,hq,_,y1⟩:=BytesAt.cell (l:=[x0,x1,x2,x3]) t3 (k:=1) (by simp)
 cases hq
 obtain⟨_,_,hq,_,y2⟩:=BytesAt.cell (l:=[x0,x1,x2,x3]) t3 (k:=2) (by simp)
 cases hq
 obtain⟨_,_,hq,_,y3⟩:=BytesAt.cell (l:=[x0,x1,x2,x3]) t3 (k:=3) (by simp)
 cases hq
 simp only[Nat.add_zero,au] at y0 y1 y2 y3 z2
 obtain⟨p2,hp2⟩: ∃x,b[2]=x:=⟨_,rfl⟩
 obtain⟨p0,hp0⟩: ∃x,(b.drop (3+n))[0]'(by omega)=x:=⟨_,rfl⟩
 obtain⟨p5,hp5⟩: ∃x,(b.drop (3+n))[5]'(by omega)=x:=⟨_,rfl⟩
 rw[hp2] at z1
 rw[hp0] at z2
 rw[hp5] at z3
 obtain⟨line,adi⟩: ∃x,(b.take (3+n)).drop 3=x:=⟨_,rfl⟩
 rw[adi] at c1 c2 hln hlt
 have hp2':b.getD 2 0=p2:=by rw[<-hp2,getD_eq (by omega)]
 have agF:b.getD (3+n) 0=p0:=by rw[<-hp0,getD_eq (by omega),List.getElem_drop];rfl
 have agE:b.getD (8+n) 0=p5:=by rw[<-hp5,getD_eq (by omega),List.getElem_drop];congr 1;omega
 simp only[Nat.reduceSub] at e3
 obtain⟨m,hm⟩: ∃m,(b.drop (3+n)).length=m:=⟨_,rfl⟩
 rw[hm] at e2 e3
 have hm0:(0:Int)<(m:Int):=by omega
 have hm5:(5:Int)<(m:Int):=by omega
 have hb2:(2:Int)<(b.length:Int):=by omega
 have ha: ∀W,(Instr.arrayAt 233 (.slice (some ⟨g3,f3,none⟩) 4 q3)).run Tryz.prog W= .ok (.pointer (some ⟨g3,f3,none⟩)) W:=fun W=>run_arrayAt W 233 _ 4 _ 4 q3 Tryz.underlying233 (ai _)
 have HT:=ae (fun W=>FY i line W hi (by omega))
 have HX:=ae (ag hX (ag hp2' (ag agF (ag agE (ag hlt hln)))))
 clear hv1 t1 t2 t3 hX hp2 hp0 hp5 hp2' agF agE adi hlt hln HV hdl hm
 go_upto_region 6 with(fail)
 go_region
 go_upto_region 7 with(fail)
 refine dN fun W2 hW2=>?_
 have hb2:Below W1.heap.size W1 W2:=by rw[hW2];exact qG (aH _ _)
 have HB2:=ae (aY HB1.o hb2)
 have y0:=((bK hb2).1 g3 f3 hg3).trans y0
 have y1:=((bK hb2).1 g3 (f3+1) hg3).trans y1
 have y2:=((bK hb2).1 g3 (f3+2) hg3).trans y2
 have y3:=((bK hb2).1 g3 (f3+3) hg3).trans y3
 have z1:=((bK hb2).1 g1 (f1+2) hg1).trans z1
 have z2:=((bK hb2).1 g2 f2 hg2).trans z2
 have z3:=((bK hb2).1 g2 (f2+5) hg2).trans z3
 have hg1:=fH hg1 hb2.size
 have hg2:=fH hg2 hb2.size
 have hg3:=fH hg3 hb2.size
 clear hW2 hb2 c1 c2
 go_region
 go_upto_region 8 with(fail)
 refine dN fun W3 hW3=>?_
 obtain⟨hb3,k3⟩:=Lp hW3
 have HB3:=ae (aY HB2.o hb3)
 obtain⟨d0,d1,d2,d3,hd⟩:=zf (iE i line)
 have HD:=ae hd
 have HT2:Hid (∀W,Calls Tryz.prog 107 #[iv i,.string (dG line)] W (PV (.agg #[uv 58,uv 58,uv 10,uv d0,uv d1,uv d2,uv d3]) W)):=ae fun W=>by
  have:=HT.o W
  unfold Us at this
  rw[hd] at this
  exact this
 obtain⟨cc,ff,ll⟩:=af k3
 clear hd hW3 hb3 k3 HT y0 y1 y2 y3 z1 z2 z3
 refine zg 8 [] none [(4,Spec.val (.agg #[uv 58,uv 58,uv 10,uv d0,uv d1,uv d2,uv d3]))] ?_
 simp only[zt]
 repeat ((first|refine zn ?_|refine zk ?_);simp only[zp])
 refine zw 107 (h:=fun W hE hF=>by exact HT2.o W) (t:=?_)
 simp only[zp]
 obtain⟨A,hA⟩: ∃A,([p2,p0,p5]==([58,58,10]:az))=A:=⟨_,rfl⟩
 obtain⟨B,hB⟩: ∃B,([x0,x1,x2,x3]==([d0,d1,d2,d3]:az))=B:=⟨_,rfl⟩
 have q1: ∀W:World,(Op.equalIn 9999 231 (.agg #[.int .u8 (p2.toNat:Int),.int .u8 (p0.toNat:Int),.int .u8 (p5.toNat:Int)]) (.agg #[uv 58,uv 58,uv 10])).run Tryz.prog W= .ok A W:=fun W=>by
  have q:=xn (P:=Tryz.prog) W 9997 231 5 3 Tryz.underlying231 Tryz.underlying5 (by intro w;go_simp) ([p2,p0,p5].map fun(c:UInt8)=>(c.toNat:Int)) (([58,58,10]:az).map fun(c:UInt8)=>(c.toNat:Int)) rfl rfl
  rw[O7,hA] at q
  exact q
 have q2: ∀W:World,(Op.equalIn 9999 233 (.agg #[.int .u8 (x0.toNat:Int),.int .u8 (x1.toNat:Int),.int .u8 (x2.toNat:Int),.int .u8 (x3.toNat:Int)]) (.agg #[uv d0,uv d1,uv d2,uv d3])).run Tryz.prog W= .ok B W:=fun W=>by
  have q:=xn (P:=Tryz.prog) W 9997 233 5 4 Tryz.underlying233 Tryz.underlying5 (by intro w;go_simp) ([x0,x1,x2,x3].map fun(c:UInt8)=>(c.toNat:Int)) (([d0,d1,d2,d3]:az).map fun(c:UInt8)=>(c.toNat:Int)) rfl rfl
  rw[O7,hB] at q
  exact q
 have HAB:=ae (ag hA hB)
 clear hA hB
 refine fZ (by rfl) (.bool (A&&B)) (by rfl) (fun W hW=>by
  go_simp
  cases A <;>cases B <;>simp[q1,q2]) ?_
 simp only[zp]
 repeat ((first|refine zn ?_|refine zk ?_);simp only[zp])
 intro W4 O1 hF4
 have hb4:Below W3.heap.size W3 W4:=Ext.below (show Ext [] W3 W4 from O1)
 have HB4:=ae (aY HB3.o hb4)
 have hw:oZ i b=if FX i n b then some ((b.drop 3).take n) else none:=by unfold oZ;rw[ak h9,HN.o];simp only;rw[ak (by omega)]
 obtain⟨x1',x2',x3',x4',x5',x6'⟩:=HX.o
 have hX:(b.drop (4+n)).take 4=[x0,x1,x2,x3]:=by
  rw[<-x1',List.drop_take,List.drop_drop,show 3+n+1=4+n from by omega]
 have ht:FX i n b=(A&&B):=by
  unfold FX
  rw[x2',x3',x4',hX, <-x5',HD.o, <-HAB.o.1, <-HAB.o.2]
  simp[Bool.and_assoc]
 rw[ht, <-x5'] at hw
 have HW:=ae hw
 clear O1 hF4 hb4 hw x1' x2' x3' x4' x5' x6' hX ht cc ff q1 q2
 go_wp2_with fail
 go_returns
 refine⟨HB4.o,_,_,rfl,?_⟩
 rw[HW.o]
 cases (A&&B)
 ·exact .inr ⟨rfl,rfl⟩
 ·exact .inl ⟨rfl,_,rfl,rfl⟩
theorem UB: ∀(f i:Nat) (b:az) (k:Nat),k<=(cu f i b).length->cu (f-k) (i+k) (b.drop (iD ((cu f i b).take k)))=(cu f i b).drop k:=by
 intro f
 induction f with
 |zero=>
  intro i b k hk
  obtain rfl:k=0:=by simpa [cu] using hk
  simp[cu,iD]
 |succ f ih=>
  intro i b k hk
  cases k with
  |zero=>simp[iD]
  |succ k=>
   cases hw:mi i b with
   |none=>
    have:cu (f+1) i b=[]:=by simp[cu,hw]
    rw[this] at hk
    simp at hk
   |some l=>
    have hr:cu (f+1) i b=l::cu f (i+1) (b.drop (9+l.length)):=by simp[cu,hw]
    rw[hr] at hk⊢
    have:=ih (i+1) (b.drop (9+l.length)) k (by simpa using hk)
    rw[List.take_succ_cons,List.drop_succ_cons,iD, <-this,List.drop_drop,show f+1-(k+1)=f-k from by omega,show i+(k+1)=i+1+k from by omega]
theorem JJ {b:az} {k:Nat} (hk:k<=(cu 40 0 b).length) (h40:k<40) {l:az} (h:mi k (b.drop (iD ((cu 40 0 b).take k)))=some l): ∃h:k<(cu 40 0 b).length,(cu 40 0 b)[k]=l:=by
 have h1:=UB 40 0 b k hk
 obtain⟨f,hf⟩: ∃f,40-k=f+1:=⟨39-k,by omega⟩
 rw[hf,Nat.zero_add,cu,h] at h1
 simp only at h1
 have hlt:k<(cu 40 0 b).length:=by
  by_cases hc:k<(cu 40 0 b).length
  ·exact hc
  ·have h2:(cu 40 0 b).drop k=[]:=List.drop_eq_nil_of_le (by omega)
   rw[h2] at h1
   cases h1
 rw[uj hlt] at h1
 exact⟨hlt,(List.cons.inj h1).1.symm⟩
theorem yV {b:az} {k:Nat} (hk:k<=(cu 40 0 b).length) (h:40<=k∨mi k (b.drop (iD ((cu 40 0 b).take k)))=none):k=(cu 40 0 b).length:=by
 rcases h with h|h
 ·have:=xW 40 0 b;omega
 ·by_cases h40:40<=k
  ·have:=xW 40 0 b;omega
  have h1:=UB 40 0 b k hk
  obtain⟨f,hf⟩: ∃f,40-k=f+1:=⟨39-k,by omega⟩
  rw[hf,Nat.zero_add,cu,h] at h1
  have:(cu 40 0 b).length-k=0:=by rw[<-List.length_drop, <-h1];rfl
  omega
theorem size_take (b:az) (k:Nat):iD ((cu 40 0 b).take k)<=b.length:=by
 have h1:=Vy 40 0 b
 have h2:iD (cu 40 0 b)=iD ((cu 40 0 b).take k)+iD ((cu 40 0 b).drop k):=by rw[<-CU,List.take_append_drop]
 omega
def vJ (b:az):List (az×Nat):=(List.range (cu 40 0 b).length).map fun k=>((cu 40 0 b).getD k [],iD ((cu 40 0 b).take (k+1)))
theorem vI (b:az):(vJ b).length=(cu 40 0 b).length:=by simp[vJ]
theorem JI {b:az} {k:Nat} (hk:k<(vJ b).length):(vJ b)[k]=((cu 40 0 b).getD k [],iD ((cu 40 0 b).take (k+1))):=by simp[vJ]
def aie (_:List Nat) (x:az×Nat) (v:Array Value) (_:World):Prop:=v= #[.string (dG x.1),iv x.2]
def ae2 (bx:Nat) (o:Option Addr) (c:Nat) (b:az) (W:World):Prop:=
 W.heap[bx]? =some (.cells #[.slice o b.length c] 25 (0,0))/\aN 1 W (.slice o b.length c) b.length (Lib.byteCells b)
theorem EY {P:Program} {n:Nat} {c:Code} {Q:Exit->Act->World->Prop} {a:Act} {w:World} (h:c.wpIn Fence.wide n P (Exit.noGoto Q) a w):(Code.scope c).wpIn Fence.wide n P Q a w:=
 wpIn_wide.2 (wp_scope_straight (wpIn_wide.1 h))
theorem NU (b:az) (hb:b.length<=1000000000) (bx:Nat) (o:Option Addr) (c:Nat):
 ae0 Tryz.prog 60 #[.pointer (some ⟨bx,0,none⟩)] (vJ b) aie [] (fun _=>True) (ae2 bx o c b):=by
 intro y J W hInv hstep hY h0
 refine callsIn_wide.1 (show CallsIn Fence.wide 0 _ _ _ _ _ from ?_)
 have HI:=ae hInv
 have HST:=ae hstep
 have HY:=ae hY
 have H0:=ae h0
 clear hInv hstep hY h0
 refine callsIn_of_wp Tryz.func60 rfl trivial ?_
 simp only[Tryz.ntmps60,List.size_toArray,List.length_cons,List.length_nil,Nat.reduceAdd,Nat.reduceSub,Array.replicate_succ,Array.replicate_zero,kQ,kR,List.nil_append,List.cons_append]
 refine EY ?_
 gi_wp2_with fail
 refine wpIn_label ?_
 rename_i hK
 refine hK _ _ ?_
 gi_wp2_with fail
 gi_loopw [3,7] (fun a i wr=> ∃k:Nat,k<=(cu 40 0 b).length/\i= .int .i64 k/\a= .int .i64 (iD ((cu 40 0 b).take k):Nat)/\J [] (some k) wr) (fun _ i _=>40-(intOf i).toNat)
 case atStart=>exact⟨0,bQ _,rfl,rfl,H0.o⟩
 case round=>
  obtain⟨k,hk,rfl,rfl,hJ⟩:=hrel
  have HJ:=ae hJ
  have hst:=size_take b k
  have HK:=ae hk
  have aen:=xW 40 0 b
  by_cases h40:k<40
  rotate_left
  ·have aan: ¬(k:Int)<40:=by omega
   have HE:Hid (J [] (some (vJ b).length) wr):=ae (by rw[vI, <-yV hk (.inl (by omega))];exact hJ)
   clear hJ hst hk aen
   gi_wp2_with fail
   go_end0
   exact⟨⟨_,rfl⟩,[],.inl HE.o⟩
  ·obtain⟨hbx,hsl⟩:=HI.o _ _ _ hJ
   obtain⟨cc,ff,ll⟩:=af hbx
   obtain⟨rG,hat⟩: ∃n,iD ((cu 40 0 b).take k)=n:=⟨_,rfl⟩
   rw[hat] at hst⊢
   obtain⟨so,sc,e1,t1⟩:=BytesAt.from hsl hst (x:=(rG:Int)) rfl
   have HW:=ae (Vj k (b.drop rG) _ wr t1 (by omega) (by simp;omega))
   have HAT:=ae hat
   have aan:(k:Int)<40:=by omega
   obtain⟨m,hm⟩: ∃m,(b.drop rG).length=m:=⟨_,rfl⟩
   rw[hm] at e1 HW
   have HDL:=ae hm
   clear hJ hk aen hbx hsl t1 hat hm
   gi_wp2_with fail
   refine(callsIn_wide.2 HW.o).mono ?_
   rintro e W1 ⟨hb1,s,is,rfl,h⟩
   have HB1:=ae hb1
   have hJ1:=HST.o _ [] _ _ _ HJ.o (Ext.aA hb1) (fun m hm=> .inl hm) trivial
   rcases h with⟨rfl,l,hl,rfl⟩|⟨rfl,hn⟩
   rotate_left
   ·have HE:Hid (J [] (some (vJ b).length) W1):=ae (by
     rw[vI, <-yV HK.o (.inr (by rw[HAT.o, <-Jr];exact hn))];exact hJ1)
    clear hJ1 hn hb1 HW e1
    gi_wp2_with fail
    simp only[Exit.noGoto]
    go_end0
    exact⟨⟨_,rfl⟩,[],.inl HE.o⟩
   ·obtain⟨hlt,hget⟩:=JJ HK.o h40 (l:=l) (by rw[HAT.o, <-Jr];exact hl)
    have hend:((iD ((cu 40 0 b).take (k+1)):Nat):Int)=(rG:Int)+(3+(l.length:Int)+6):=by
     rw[iC hlt,CU,HAT.o,hget]
     simp only[iD]
     omega
    have hk':k<(vJ b).length:=by rw[vI];exact hlt
    have aow:l.length<=60:=by rw[<-hget];exact read_short 40 0 b _ (dh hlt)
    have hsz:=jE l
    obtain⟨g1,t1,a1,b1,hy1,hR1⟩:=HY.o [] k #[.string (dG l),.int .i64 ((rG:Int)+(3+(l.length:Int)+6))] W1 hk' hJ1 (by
     unfold aie
     rw[JI]
     simp only[gV,dw hlt,Option.getD_some,hget]
     rw[hend])
    have HR1:=ae hR1
    have alM:=ae hend
    have HLT:=ae hlt
    clear hJ1 hR1 hend hget hl hb1 HW e1 hk' hlt
    gi_wp2_with fail
    refine HR1.o.mono ?_
    rintro e W2 ⟨⟨hkeep,hsz2⟩,⟨rfl,hJ2⟩|⟨rfl,hJ2⟩⟩
    ·have HJ2:=ae hJ2
     clear hJ2 hkeep hsz2 hy1 HR1
     gi_wp2_with fail
     refine⟨⟨k+1,HLT.o,by go_num,by rw[alM.o],HJ2.o⟩,by simp[intOf];omega⟩
    ·have HJ2:=ae hJ2
     clear hJ2 hkeep hsz2 hy1 HR1
     gi_wp2_with fail
     simp only[Exit.noGoto]
     go_returns
     exact⟨⟨_,rfl⟩,[],.inr HJ2.o⟩
theorem NV (o:Option Addr) (n c:Nat) (w:World):
 Calls Tryz.prog 33 #[.slice o n c] w (fun e w'=>e= .returned (.func (.func 60) #[] #[.pointer (some ⟨w.heap.size,0,none⟩)])/\w'=w.alloc (.cells #[.slice o n c] 25)):=by
 go_enter Tryz.func33,Tryz.ntmps33
 go_wp2
 go_returns
 exact⟨by simp,rfl⟩
end Go.Proofs.YthllkbbbapgelaaGreatDoor.Bk
end
section
namespace Go.Proofs.YthllkbbbapgelaaGreatDoor.Bk
open Go.RowKit Go.RG Go.SL Go.Shelf jy Go.TB Go.Proofs.YthllkbbbapgelaaGreatDoor.AQ
def xx (xs:List Value):Prop:= ∀u∈xs, ∃k,u= .int .u8 k
theorem YH (s:ByteArray):xx (Lib.strCells s):=fun u hu=>by
 simp only[Lib.strCells,jc] at hu
 obtain⟨b,_,rfl⟩:=hu
 exact⟨_,rfl⟩
theorem KR {a b:List Value} (ha:xx a) (hb:xx b):xx (a++b):=fun u hu=>by
 rcases iP.1 hu with h|h
 ·exact ha u h
 ·exact hb u h
theorem abv (n:Nat):xx (Builtin.zeroCells (Value.int .u8 0).cells n).toList:=fun u hu=>by
 have:u∈(Builtin.zeroCells (Value.int .u8 0).cells n):=pU.1 hu
 obtain⟨i,hi,rfl⟩:=Array.mem_iff_getElem.1 this
 refine⟨0,?_⟩
 simp[Builtin.zeroCells,Value.cells,Nat.mod_one]
section
variable {P : Program} {w : World}
theorem Fa (base:Nat) (t u ty e:TypeId) (i:TypeInfo) (ht:P.underlying t=some (.slice e)) (hu:P.underlying u=some .string) (hi:P.info? e=some i) (hz:i.zero=some (.int .u8 0))
 (hsize:i.size=1) (hby:i.bytes=1)
 (v:Value) (n:Nat) (xs:List Value) (hown:w.ownsRow base e 1 v n xs) (hU: ∀q,v.ownBlock=some q-> ∀cs t f,w.heap[q]? =some (.cells cs t f)->xx cs.toList) (s:ByteArray)
 (h63:n+s.size<=maxLen) (hbytes:n+s.size<=140737488355328) (hbase:base<=w.heap.size):
 ∃v' w',(Builtin.append_ #[t,u] ty #[v,.string s]).run P w= .ok v' w'/\w'.ownsRow base e 1 v' (n+s.size) (xs++Lib.strCells s)/\w.grownBy w' v.ownBlock/\
  (∀q,v'.ownBlock=some q-> ∀cs t f,w'.heap[q]? =some (.cells cs t f)->xx cs.toList):=by
 have hsmall:n+s.size<=9223372036854775807:=by simp only[maxLen] at h63;omega
 have hxl:xs.length=n:=by simpa using hown.1
 have hlen:(xs++Lib.strCells s).length=(n+s.size)*1:=by rw[dm,hxl,Lib.strCells_length,Nat.mul_one]
 have hxU:xx xs:=by
  rcases hown.2 with⟨rfl,rfl⟩|⟨g,cap,cur,rfl,hbg,hg,hnc,hcm,hcs,htake⟩
  ·have:xs=[]:=kG hxl
   subst this
   exact fun u hu=>by cases hu
  ·have:=hU g rfl cur e (0,0) hg
   rw[<-htake]
   exact fun u hu=>this u (kP hu)
 have grown: ∀(old:Nat),old<n+s.size-> ∀(row:Option Nat),
  (w.drew.alloc (.cells (xs.toArray++(Lib.strCells s).toArray++Builtin.zeroCells (Value.int .u8 0).cells (grownCap w (n+s.size) old e-(n+s.size))) e)).ownsRow base e 1
    (.slice (some ⟨w.heap.size,0,none⟩) (n+s.size) (grownCap w (n+s.size) old e)) (n+s.size) (xs++Lib.strCells s)/\
  w.grownBy (w.drew.alloc (.cells (xs.toArray++(Lib.strCells s).toArray++Builtin.zeroCells (Value.int .u8 0).cells (grownCap w (n+s.size) old e-(n+s.size))) e)) row/\
  ∀cs t f,(w.drew.alloc (.cells (xs.toArray++(Lib.strCells s).toArray++Builtin.zeroCells (Value.int .u8 0).cells (grownCap w (n+s.size) old e-(n+s.size))) e)).heap[w.heap.size]? =some (.cells cs t f)->xx cs.toList:=by
  intro old ho row
  have hge:=grownCap_ge w (n+s.size) old e
  have hcm:grownCap w (n+s.size) old e<=maxLen:=grownCap_le_maxLen w (n+s.size) old e h63
  refine⟨⟨hlen,.inr ⟨w.heap.size,_,_,rfl,hbase,heap_alloc_new w.drew _,hge,hcm,?_,?_⟩⟩,⟨rfl,rfl,rfl,by simp,fun k hk _=>heap_alloc_old w.drew _ hk⟩,fun cs t f h=>?_⟩
  ·have hz1:(Value.int IntKind.u8 0).cells.size=1:=rfl
   simp only[Array.size_append,List.size_toArray,size_zeroCells,hz1,hxl,Lib.strCells_length]
   omega
  ·simp only[Array.toList_append,List.append_assoc]
   rw[<-List.append_assoc, <-hlen]
   exact List.take_left
  ·have h2:=(heap_alloc_new w.drew (.cells (xs.toArray++(Lib.strCells s).toArray++Builtin.zeroCells (Value.int .u8 0).cells (grownCap w (n+s.size) old e-(n+s.size))) e)).symm.trans h
   simp only[Option.some.injEq,Obj.cells.injEq] at h2
   rw[<-h2.1]
   simp only[Array.toList_append]
   exact KR (KR hxU (YH s)) (abv _)
 rcases hown.2 with⟨rfl,rfl⟩|⟨g,cap,cur,rfl,hbg,hg,hnc,hcm,hcs,htake⟩
 ·have hx:xs=[]:=kG hxl
  subst hx
  by_cases hm:s.size=0
  ·have hn:Lib.strCells s=[]:=kG (by rw[Lib.strCells_length];exact hm)
   refine⟨.slice none 0 0,w,?_,by rw[hm,hn];exact World.ownsRow_nil w base e 1,⟨rfl,rfl,rfl,ai _,fun _ _ _=>rfl⟩,fun q hq=>by cases hq⟩
   have hf:=Lib.run_firstCells_string (P:=P) w 1 s
   rw[hm] at hf
   simp[Builtin.append_,run_underlying ht,run_underlying hu,sizeOf,typeInfo,hi,hsize,Builtin.lenOf,hm,hf]
  ·have hr:=run_append_nil_string (P:=P) w t u ty e i (.int .u8 0) ht hu hi hz s (by omega) (by omega) (by rw[hby];omega)
   have hgr:=grown 0 (by omega) (Value.ownBlock (.slice none 0 0))
   simp only[Nat.zero_add,List.nil_append,Array.empty_append] at hgr⊢
   have e1:(s.data.map fun b=>Value.int .u8 b.toNat)=(Lib.strCells s).toArray:=by
    apply Array.ext'
    simp[Lib.strCells]
   rw[e1] at hr
   refine⟨_,_,hr,hgr.1,hgr.2.1,fun q hq=>?_⟩
   obtain rfl:=jD hq
   exact hgr.2.2
 ·by_cases hroom:n+s.size<=cap
  ·have hcs':cur.size=cap:=by simpa using hcs
   have hr:=Lib.run_append_room_string (P:=P) w t u ty e i ht hu hi hsize g n cap cur hg s hroom (by omega)
   refine⟨_,_,hr,⟨hlen,.inr ⟨g,cap,_,rfl,hbg,setRow_heap w g cur _ e _ hg,hroom,hcm,?_,?_⟩⟩,⟨rfl,rfl,rfl,by simp,fun k _ hk=>setRow_other w g k _ (fun e=>hk (by simp[Value.ownBlock,e]))⟩,fun q hq cs t f h=>?_⟩
   ·simp only[List.size_toArray,dm,gU,lG,Array.length_toList,Lib.strCells_length]
    omega
   ·have ht':cur.toList.take n=xs:=by simpa using htake
    rw[ht', <-hlen]
    exact List.take_left
   ·obtain rfl:=jD hq
    rw[setRow_heap w g cur _ e _ hg] at h
    simp only[Option.some.injEq,Obj.cells.injEq] at h
    rw[<-h.1]
    have hc:=hU g rfl cur e (0,0) hg
    exact KR (KR (fun u hu=>hc u (kP hu)) (YH s)) (fun u hu=>hc u (List.mem_of_mem_drop hu))
  ·have holds: ∀j u,xs[j]? =some u->w.cell? ((⟨g,0,none⟩:Addr).add j)=some u:=hown.cells (g:=g) rfl
   have hr:=Lib.run_append_grow_string (P:=P) w t u ty e i (.int .u8 0) ht hu hi hz ⟨g,0,none⟩ n cap xs (by rw[hsize];simpa using hxl) holds s (by omega) (by omega) (by rw[hby];exact growslice_fits (by omega) (by omega))
   have hgr:=grown cap (by omega) (Value.ownBlock (.slice (some ⟨g,0,none⟩) n cap))
   refine⟨_,_,hr,hgr.1,hgr.2.1,fun q hq=>?_⟩
   obtain rfl:=jD hq
   exact hgr.2.2
theorem zV {ops:Array Oper} {rest:List Oper} {o:Oper} {a:Act} {Q:Exit->Act->World->Prop} (hgd:o.guard=none) (sl x:Operand) (t u:TypeId)
 (ho:o.op= .call {callee:= .builtin .append,args:= #[sl,x],argTypes:= #[t,u]})
 (base:Nat) (e:TypeId) (i:TypeInfo) (ht:P.underlying t=some (.slice e)) (hu:P.underlying u=some .string) (hi:P.info? e=some i) (hz:i.zero=some (.int .u8 0))
 (hsize:i.size=1) (hby:i.bytes=1)
 (v:Value) (n:Nat) (xs:List Value) (hs:a.eval sl=v) (hown:w.ownsRow base e 1 v n xs) (hU: ∀q,v.ownBlock=some q-> ∀cs t f,w.heap[q]? =some (.cells cs t f)->xx cs.toList) (s:ByteArray) (hx:a.eval x= .string s)
 (h63:n+s.size<=maxLen) (hbytes:n+s.size<=140737488355328) (hbase:base<=w.heap.size)
 (h: ∀v' w',w'.ownsRow base e 1 v' (n+s.size) (xs++Lib.strCells s)->w.grownBy w' v.ownBlock->(∀q,v'.ownBlock=some q-> ∀cs t f,w'.heap[q]? =some (.cells cs t f)->xx cs.toList)->wpList P ops Q rest (a.put o.dst v') w'):wpList P ops Q (o::rest) a w:=by
 refine wpList_plain hgd fun K hK=>?_
 obtain⟨v',w',hr,h2,h3,h4⟩:=Fa (P:=P) base t u o.type e i ht hu hi hz hsize hby v n xs hown hU s h63 hbytes hbase
 unfold Oper.wp execOp
 simp only[ho,resolve,invoke,builtin,Sem.run_bind,Sem.run_pure,Result.andThen_ok,List.map_toArray,List.map_cons,List.map_nil,hs,hx,hr]
 exact hK _ _ (h v' w' h2 h3 h4)
end
def Ci (B b:Nat) (p:Value) (bs:az) (w:World):Prop:=
 B<=b/\ ∃v,w.heap[b]? =some (.cells #[p,v] 111 (0,0))/\w.ownsRow B 5 1 v bs.length (Lib.byteCells bs)/\v.ownBlock≠some b/\ ∀q,v.ownBlock=some q-> ∀cs t f,w.heap[q]? =some (.cells cs t f)->xx cs.toList
def Buf (B b:Nat) (bs:az) (w:World):Prop:=Ci B b (.pointer none) bs w∨Ci B b (.pointer (some ⟨b,0,none⟩)) bs w
theorem Ci.rG {B b:Nat} {p:Value} {bs:az} {w:World} (h:Ci B b p bs w):Lib.BuilderAt 111 5 B b p (Lib.byteCells bs) w:=by
 obtain⟨h1,v,h2,h3,h4,_⟩:=h
 exact⟨h1,v,h2,by rw[Lib.byteCells_length];exact h3,h4⟩
theorem Buf.is {B b:Nat} {bs:az} {w:World} (h:Buf B b bs w):Lib.IsBuilder 111 5 B b (Lib.byteCells bs) w:=h.imp Ci.rG Ci.rG
theorem Ci.below {B b:Nat} {p:Value} {bs:az} {w W:World} (h:Ci B b p bs w) (hb:Below w.heap.size w W):Ci B b p bs W:=by
 obtain⟨h1,v,h2,h3,h4,h5⟩:=h
 have hlt:=(aS.1 h2).1
 refine⟨h1,v,(hb.block b hlt).trans h2,aC (Ms:=[]) h3 (Ext.aA hb) (by simp),h4,fun q hq cs t f hc=>?_⟩
 rw[hb.block q (bD h3 q hq).2] at hc
 exact h5 q hq cs t f hc
theorem Buf.below {B b:Nat} {bs:az} {w W:World} (h:Buf B b bs w) (hb:Below w.heap.size w W):Buf B b bs W:=h.imp (fun x=>x.below hb) (fun x=>x.below hb)
structure Wr (B:Nat) (w w':World):Prop where
 below:Below B w w'
 size:w.heap.size<=w'.heap.size
 ints: ∀k,k<w.heap.size->(∃o n,w.cell? ⟨k,o,none⟩=some (iv n))->w'.heap[k]? =w.heap[k]?
theorem Wr.refl (B:Nat) (w:World):Wr B w w:=⟨aH _ _,ai _,fun _ _ _=>rfl⟩
theorem Wr.trans {B:Nat} {a b c:World} (h:Wr B a b) (k:Wr B b c):Wr B a c:=
 ⟨h.below.trans k.below,iW h.size k.size,fun i hi hc=>by
   have h1:=h.ints i hi hc
   obtain⟨o,n,hc⟩:=hc
   exact(k.ints i (fH hi h.size) ⟨o,n,by rw[jd (w:=a) h1];exact hc⟩).trans h1⟩
theorem Wr.aA {B:Nat} {w w':World} (h:Below w.heap.size w w') (hB:B<=w.heap.size):Wr B w w':=⟨h.mono hB,h.size,fun k hk _=>h.block k hk⟩
theorem Wr.list {B:Nat} {w w':World} (h:Wr B w w') {size:Nat} {v:Value} {n:Nat} {xs:List Value} (hs:aN size w v n xs) (hi: ∀u∈xs, ∃k,u=iv k):aN size w' v n xs:=by
 obtain⟨hl,o,c,rfl,h1,h2,h3,h4⟩:=hs
 refine⟨hl,o,c,rfl,h1,h2,h3,fun a ha=>?_⟩
 obtain⟨hs,hc⟩:=h4 a ha
 obtain⟨b,off,sp⟩:=a
 simp only at hs hc
 subst hs
 refine⟨rfl,fun j u hj=>?_⟩
 have hcell:=hc j u hj
 obtain⟨k,rfl⟩:=hi u (ni hj)
 rw[jd (w:=w) (h.ints b (dI w _ hcell) ⟨_,_,hcell⟩)]
 exact hcell
theorem abX (l:List Int): ∀u∈ah l, ∃k,u=iv k:=fun u hu=>by
 obtain⟨k,_,rfl⟩:=jc.1 hu
 exact⟨k,rfl⟩
theorem Bq (l:List dR): ∀u∈aG l, ∃k,u=iv k:=fun u hu=>by
 obtain⟨r,_,h⟩:=qx.1 hu
 rcases gZ.1 h with rfl|h
 ·exact⟨_,rfl⟩
 ·obtain rfl:=fD.1 h
  exact⟨_,rfl⟩
theorem Ci.Zl {B b:Nat} {p:Value} {bs:az} {w:World} (h:Ci B b p bs w) (hp: ∀n,p≠iv n) {o:Nat} {n:Int}:w.cell? ⟨b,o,none⟩≠some (iv n):=by
 obtain⟨h1,v,h2,h3,_⟩:=h
 intro e
 rw[Lib.cell_of_heap h2] at e
 match o with
 |0=>exact hp n (by simpa using e)
 |1=>
  have e':v=iv n:=by simpa using e
  rcases h3.2 with⟨hv,_⟩|⟨g,cap,cur,hv,_⟩ <;>rw[hv] at e' <;>cases e'
 |o+2=>simp at e
theorem Ci.wr {B b:Nat} {p:Value} {bs:az} {w w':World} (h:Ci B b p bs w) (hp: ∀n,p≠iv n) {v:Value} (hv:w.cell? ⟨b,1,none⟩=some v) (hb:Below B w w') (hs:w.heap.size<=w'.heap.size)
 (hk: ∀k,k<w.heap.size->k≠b->v.ownBlock≠some k->w'.heap[k]? =w.heap[k]?):Wr B w w':=by
 refine⟨hb,hs,fun k hk' hc=>?_⟩
 obtain⟨o,n,hc⟩:=hc
 refine hk k hk' (fun e=>?_) (fun e=>?_)
 ·subst e;exact h.Zl hp hc
 ·obtain⟨h1,v',h2,h3,h4,h5⟩:=h
  rw[Lib.cell_of_heap h2] at hv
  obtain rfl:v'=v:=by simpa using hv
  rcases h3.2 with⟨hv,_⟩|⟨g,cap,cur,hv,_,hg,_⟩
  ·rw[hv] at e;cases e
  ·rw[hv] at e
   obtain rfl:g=k:=by simpa [Value.ownBlock] using e
   rw[Lib.cell_of_heap hg] at hc
   obtain⟨k',hk'⟩:=h5 g (by rw[hv];rfl) cur _ _ hg (iv n) (by rw[pU];exact Array.mem_of_getElem? hc)
   cases hk'
theorem Qc (b:Nat) (w:World) (h0:w.cell? ⟨b,0,none⟩=some (.pointer (some ⟨b,0,none⟩))):
 Calls Tryz.prog 64 #[.pointer (some ⟨b,0,none⟩)] w fun e w'=>e= .returned (.tuple #[])/\w'=w:=by
 obtain⟨j,hj,hjs⟩:=Option.map_eq_some_iff.1 (show(Tryz.prog.info? 111).map (·.size)=some 2 by kernel_rfl)
 go_enter Tryz.func64,Tryz.ntmps64
 go_wp2
 rw[Lib.run_neq_ptr_same w _ Tryz.underlying109 hj]
 go_wp2
 go_end0
 exact⟨rfl,rfl⟩
theorem MW (b:Nat) (w:World) (h0:w.cell? ⟨b,0,none⟩=some (.pointer none)) (hsh:w.shape? b=some (111,2)) (hfz:w.frozen? ⟨b,0,none⟩=false):
 Calls Tryz.prog 64 #[.pointer (some ⟨b,0,none⟩)] w fun e w'=>e= .returned (.tuple #[])/\w'=w.setCell ⟨b,0,none⟩ (.pointer (some ⟨b,0,none⟩)):=by
 obtain⟨j,hj,hjs⟩:=Option.map_eq_some_iff.1 (show(Tryz.prog.info? 111).map (·.size)=some 2 by kernel_rfl)
 go_enter Tryz.func64,Tryz.ntmps64
 go_wp2
 rw[Lib.run_to_unsafe w ⟨b,0,none⟩ Tryz.underlying109 Tryz.underlying239 hj (by rw[hjs];decide) hsh (Nat.zero_lt_succ 1)]
 simp only[Result.andThen]
 rw[Oper.upon_value]
 go_wp2
 rw[run_callFunc_extern Tryz.func110 (by kernel_rfl) (by kernel_rfl) (by kernel_rfl) (e:=Extern.AbiNoEscape.same) (by kernel_rfl)]
 rw[Lib.run_noEscape]
 simp only[Result.andThen]
 rw[Oper.upon_value]
 go_wp2
 rw[Lib.run_from_unsafe w ⟨b,0,none⟩ Tryz.underlying239 Tryz.underlying109 hj hsh (by kernel_rfl)]
 simp only[Result.andThen]
 rw[Oper.upon_value]
 go_wp2
 go_end0
 exact⟨rfl,rfl⟩
theorem TR (B b:Nat) (bs:az) (w:World) (h:Buf B b bs w):
 Calls Tryz.prog 64 #[.pointer (some ⟨b,0,none⟩)] w fun e w'=>e= .returned (.tuple #[])/\Ci B b (.pointer (some ⟨b,0,none⟩)) bs w'/\Wr B w w':=by
 rcases h with h|h
 ·refine(MW b w h.rG.cell0 h.rG.shape h.rG.frozen0).mono ?_
  rintro e w' ⟨rfl,rfl⟩
  have hlt:=h.rG.lt
  have hw:Wr B w (w.setCell ⟨b,0,none⟩ (.pointer (some ⟨b,0,none⟩))):=
   ⟨(aH B w).setCell (p:=⟨b,0,none⟩) h.1 _,by simp[World.setCell],fun k hk hc=>by
     obtain⟨o,n,hc⟩:=hc
     refine dH _ _ _ _ (fun e=>?_)
     subst e
     exact h.Zl (fun _ e=>by cases e) hc⟩
  obtain⟨h1,v,h2,h3,h4,h5⟩:=h
  refine⟨rfl,⟨h1,v,?_,?_,h4,fun q hq cs t f hc=>?_⟩,hw⟩
  ·simp[World.setCell,Array.getElem?_modify,h2]
  ·exact h3.kept (row:=some b) ⟨rfl,rfl,rfl,by simp[World.setCell],fun k _ hk=>dH _ _ _ _ (fun e=>hk (by simp[e]))⟩ (Or.inr h4)
  ·rw[dH _ _ _ _ (fun e=>h4 (by rw[hq,e]))] at hc
   exact h5 q hq cs t f hc
 ·refine(Qc b w h.rG.cell0).mono ?_
  rintro e w' ⟨rfl,rfl⟩
  exact⟨rfl,h,Wr.refl _ _⟩
theorem vz (B b:Nat) (bs s:az) (w:World) (h:Buf B b bs w) (hBw:B<=w.heap.size) (hlen:bs.length+s.length<=1000000):
 Calls Tryz.prog 38 #[.pointer (some ⟨b,0,none⟩),.string (dG s)] w fun e w'=>(∃v,e= .returned v)/\Buf B b (bs++s) w'/\Wr B w w':=by
 have hsz:(dG s).size=s.length:=by simp[ByteArray.size]
 obtain⟨i0,hi,hz0,hz1,hz2⟩:=info_parts (show(Tryz.prog.info? 5).map (fun i=>(i.zero,i.size,i.bytes))=some (some (.int .u8 0),1,1) by kernel_rfl)
 have HC:=ae (TR B b bs w h)
 clear h
 go_enter Tryz.func38,Tryz.ntmps38
 go_wp2_with fail
 refine HC.o.mono ?_
 rintro e w1 ⟨rfl,h1,hw1⟩
 have hp: ∀n,(Value.pointer (some ⟨b,0,none⟩))≠iv n:=fun _ e=>by cases e
 have HA:=ae h1
 obtain⟨hB,v,hbk,hown,hne,hU⟩:=h1
 have c0:w1.cell? ⟨b,0,none⟩=some (.pointer (some ⟨b,0,none⟩)):=by rw[Lib.cell_of_heap hbk];rfl
 have c1:w1.cell? ⟨b,1,none⟩=some v:=by rw[Lib.cell_of_heap hbk];rfl
 go_wp2_with (at_builtin;refine zV rfl _ _ 25 9 rfl B 5 i0 Tryz.underlying25 Tryz.underlying9 hi hz0 hz1 hz2 _ _ _ rfl hown hU (dG s) rfl ?c3 ?c4 ?c5 ?_)
 case c3=>rw[hsz];unfold maxLen;omega
 case c4=>rw[hsz];omega
 case c5=>have:=hw1.size;omega
 intro v' w2 hown' hgrow hU'
 have hlt:b<w1.heap.size:=(aS.1 hbk).1
 have hb2:w2.heap[b]? =some (.cells #[.pointer (some ⟨b,0,none⟩),v] 111 (0,0)):=by
  rw[hgrow.block b hlt (fun e=>hne e.symm)]
  exact hbk
 have d0:w2.cell? ⟨b,0,none⟩=some (.pointer (some ⟨b,0,none⟩)):=by rw[Lib.cell_of_heap hb2];rfl
 have d1:w2.cell? ⟨b,1,none⟩=some v:=by rw[Lib.cell_of_heap hb2];rfl
 have f1:w2.frozen? ⟨b,1,none⟩=false:=Lib.frozen_of_heap hb2 1
 obtain⟨ao,n',cap,rfl⟩: ∃ao n' cap,v'= .slice ao n' cap:=by
  rcases hown'.2 with⟨hv,_⟩|⟨g,cap,cur,hv,_⟩
  ·exact⟨_,_,_,hv⟩
  ·exact⟨_,_,_,hv⟩
 have hne':=Lib.ownBlock_ne hown' hb2 (show 111≠5 by decide)
 have HG:=ae (ag hown' (ag hgrow (ag hU' (ag hw1 (ag c1 (ag hown hb2))))))
 clear hown' hgrow hU' hw1 hU hb2 hown
 go_wp2
 go_ret2
 obtain⟨hown',hgrow,hU',hw1,c1',hown,hb2⟩:=HG.o
 refine⟨⟨_,rfl⟩,.inr ⟨hB,_,?_,?_,hne',fun q hq cs t f hc=>?_⟩,hw1.trans (HA.o.wr hp c1' ?_ ?_ ?_)⟩
 ·simp[World.setCell,Array.getElem?_modify,hb2]
 ·have h3:w2.ownsRow B 5 1 (.slice ao n' cap) (bs++s).length (Lib.byteCells (bs++s)):=by
   rw[dm,Lib.byteCells_append, <-hsz]
   exact hown'
  exact h3.kept (row:=some b) ⟨rfl,rfl,rfl,by simp[World.setCell],fun k _ hk=>dH _ _ _ _ (fun e=>hk (by simp[e]))⟩ (Or.inr hne')
 ·rw[dH _ _ _ _ (fun e=>hne' (by rw[hq,e]))] at hc
  first|exact hU' q hq cs t f hc|exact hU' q hq cs t f.1 f.2 hc
 ·exact((aH B w1).grown hgrow (by have:=hw1.size;omega) (fun k hk=>(hown.lt k hk).1)).setCell (p:=⟨b,1,none⟩) hB _
 ·have:=hgrow.size;simp[World.setCell];omega
 ·intro k hk hkb hkv
  exact(dH _ _ _ _ (fun e=>hkb e)).trans (hgrow.block k hk (fun e=>hkv e.symm))
end Go.Proofs.YthllkbbbapgelaaGreatDoor.Bk
end
section
namespace Go.Proofs.YthllkbbbapgelaaGreatDoor.Bk
open Go.RowKit Go.RG Go.SL Go.Shelf jy Go.TB Go.Proofs.YthllkbbbapgelaaGreatDoor.AQ
abbrev kV (n:Int):Prop:= -1000000000<=n/\n<=1000000000
theorem qJ {n:Int} (h:kV n):(Lib.itoa n).length<=11:=by
 unfold Lib.itoa
 split
 ·have:=MK 9 n.natAbs (by omega)
  simp only[List.length_cons];omega
 ·have:=MK 9 n.toNat (by omega)
  omega
theorem yt (n:Int) (h:kV n) (w:World) (hE:Env w):Calls Tryz.prog 39 #[iv n] w (PV (.string (dG (Lib.itoa n))) w):=by
 refine(Go.Proofs.Tryz.strconv_Itoa n (by omega) (by omega) w (UY hE (by kernel_rfl))).mono ?_
 rintro e w2 ⟨rfl,k,os,rfl⟩
 exact⟨rfl,Hf w k os⟩
def gW (word:az) (r:dR):az:=word++[32]++Lib.itoa r.1++[46,46]++Lib.itoa r.2++[10]
theorem Cm {word:az} {r:dR} (h1:kV r.1) (h2:kV r.2):(gW word r).length<=word.length+26:=by
 have:=qJ h1
 have:=qJ h2
 simp only[gW,dm,List.length_cons,List.length_nil]
 omega
theorem rW (word:az): ∀{l:List dR},(∀r∈l,kV r.1/\kV r.2)->(l.flatMap (gW word)).length<=(word.length+26)*l.length:=by
 intro l
 induction l with
 |nil=>intro _;simp
 |cons r l ih=>
  intro h
  have h1:=h r (by simp)
  have h2:=Cm (word:=word) h1.1 h1.2
  have h3:=ih (fun x hx=>h x (by simp[hx]))
  rw[List.flatMap_cons,dm,List.length_cons,Nat.mul_add]
  omega
theorem su (B b:Nat) (bs word:az) (r:dR) (w:World) (h:Buf B b bs w) (hBw:B<=w.heap.size) (hB4:4<=B) (hE:Env w) (h1:kV r.1) (h2:kV r.2) (hlen:bs.length+(word.length+26)<=1000000):
 Calls Tryz.prog 37 #[.string (dG word),iv r.1,iv r.2,.pointer (some ⟨b,0,none⟩)] w fun e w'=>(∃v,e= .returned v)/\Buf B b (bs++gW word r) w'/\Wr B w w':=by
 have HE:Hid (∀W,Below w.heap.size w W->Env W):=ae (fun W hb=>hE.below hb (ai _))
 have HBu:=ae h
 have HS:=ae (ag h1 h2)
 have l1:=qJ h1
 have l2:=qJ h2
 obtain⟨s1,hs1⟩: ∃s,Lib.itoa r.1=s:=⟨_,rfl⟩
 obtain⟨s2,hs2⟩: ∃s,Lib.itoa r.2=s:=⟨_,rfl⟩
 rw[hs1] at l1
 rw[hs2] at l2
 have a1:=fun W=>jP (P:=Tryz.prog) (a:=word) (b:=[32]) rfl (by simp;omega) W
 have a2:=fun W=>jP (P:=Tryz.prog) (a:=word++[32]) (b:=s1) rfl (by simp;omega) W
 have a3:=fun W=>jP (P:=Tryz.prog) (a:=word++[32]++s1) (b:=[46,46]) rfl (by simp;omega) W
 have a4:=fun W=>jP (P:=Tryz.prog) (a:=word++[32]++s1++[46,46]) (b:=s2) rfl (by simp;omega) W
 have a5:=fun W=>jP (P:=Tryz.prog) (a:=word++[32]++s1++[46,46]++s2) (b:=[10]) rfl (by simp;omega) W
 have HW:Hid (gW word r=word++[32]++s1++[46,46]++s2++[10]):=ae (by unfold gW;rw[hs1,hs2])
 have H1:=ae hs1
 have H2:=ae hs2
 obtain⟨lo,hi⟩:=r
 simp only at*
 clear h hE h1 h2 hs1 hs2
 go_enter Tryz.func37,Tryz.ntmps37
 go_wp2_with fail
 refine(yt lo HS.o.1 _ (HE.o _ (aH _ _))).mono ?_
 rintro e w1 ⟨rfl,hb1⟩
 rw[H1.o]
 have HB1:=ae hb1
 clear hb1
 go_wp2_with fail
 refine(yt hi HS.o.2 _ (HE.o _ HB1.o)).mono ?_
 rintro e w2 ⟨rfl,hb2⟩
 rw[H2.o]
 have HB2:=ae (aY HB1.o hb2)
 have hs2:=HB2.o.size
 have e5:dG (word++32::s1)++{data:= #[46,46]}++dG s2++{data:= #[10]}=dG (word++[32]++s1++[46,46]++s2++[10]):=by
  show dG (word++32::s1)++dG [46,46]++dG s2++dG [10]=_
  rw[qO,qO,qO]
  simp
 clear hb2
 go_wp2_with fail
 refine(vz B b bs _ w2 (HBu.o.below HB2.o) (by omega) (by simp;omega)).mono ?_
 rintro e w3 ⟨⟨v,rfl⟩,h3,h4⟩
 have H3:=ae (ag h3 h4)
 clear h3 h4 e5
 go_wp2_with fail
 go_end0
 refine⟨⟨_,rfl⟩,?_,(Wr.aA HB2.o (by omega)).trans H3.o.2⟩
 rw[HW.o]
 simpa using H3.o.1
theorem wQ {α:Type} {l:List α} {i:Nat} {d:α} (h:i<l.length):l.getD i d=l[i]:=by simp[List.getD,h]
theorem P9 (n:Nat) (ls:List (List Int)): ∀k,k<=ls.length->k≠0-> ∀i,i<n->
 (∀l∈ls.take k,((bz n ls k).getD i (0,0)).1<=l.getD i 0/\l.getD i 0<=((bz n ls k).getD i (0,0)).2)/\
 (∃l∈ls.take k,((bz n ls k).getD i (0,0)).1=l.getD i 0)/\(∃l∈ls.take k,((bz n ls k).getD i (0,0)).2=l.getD i 0):=by
 intro k
 induction k with
 |zero=>intro _ h;exact absurd rfl h
 |succ k ih=>
  intro hk _ i hi
  have hk':k<ls.length:=by omega
  have ht:ls.take (k+1)=ls.take k++[ls[k]]:=iC hk'
  have hg:ls.getD k []=ls[k]:=wQ hk'
  by_cases h0:k=0
  ·subst h0
   have e:(bz n ls 1).getD i (0,0)=((ls[0]).getD i 0,(ls[0]).getD i 0):=by
    simp only[bz,eP,hg]
    rw[wQ (by simp;omega)]
    simp
   rw[e]
   simp only[Nat.zero_add] at ht⊢
   rw[ht]
   exact⟨fun l hl=>by obtain rfl:=fD.1 (by simpa using hl);exact⟨Int.le_refl _,Int.le_refl _⟩,⟨ls[0],by simp,rfl⟩,⟨ls[0],by simp,rfl⟩⟩
  ·obtain⟨h1,⟨l2,hl2,h2⟩,⟨l3,hl3,h3⟩⟩:=ih (by omega) h0 i hi
   have hlen:=pO n ls k h0
   have e:(bz n ls (k+1)).getD i (0,0)=wid ((bz n ls k).getD i (0,0)) ((ls[k]).getD i 0):=by
    simp only[bz,eP,hg,h0,if_false]
    rw[wQ (by simp;omega)]
    simp[hi]
   rw[e,ht]
   generalize (bz n ls k).getD i (0,0)=r at*
   simp only[wid]
   refine⟨fun l hl=>?_,?_,?_⟩
   ·rcases iP.1 hl with hl|hl
    ·have:=h1 l hl;omega
    ·obtain rfl:=fD.1 hl;omega
   ·by_cases hc:r.1<=(ls[k]).getD i 0
    ·exact⟨l2,oD _ hl2,by omega⟩
    ·exact⟨ls[k],uk _ (fD.2 rfl),by omega⟩
   ·by_cases hc:(ls[k]).getD i 0<=r.2
    ·exact⟨l3,oD _ hl3,by omega⟩
    ·exact⟨ls[k],uk _ (fD.2 rfl),by omega⟩
theorem Qa {n:Nat} {ls:List (List Int)} (h:ls≠[]):(rQ n ls).length=n:=pO n ls _ (by cases ls <;>simp_all)
theorem TQ {n:Nat} {ls:List (List Int)} (h:ls≠[]) {i:Nat} (hi:i<n):
 (∀l∈ls,((rQ n ls).getD i (0,0)).1<=l.getD i 0/\l.getD i 0<=((rQ n ls).getD i (0,0)).2)/\
 (∃l∈ls,((rQ n ls).getD i (0,0)).1=l.getD i 0)/\(∃l∈ls,((rQ n ls).getD i (0,0)).2=l.getD i 0):=by
 have:=P9 n ls ls.length (ai _) (by cases ls <;>simp_all) i hi
 rwa [List.take_length] at this
structure U5 (s:jO):Prop where
 field:fM s.led.field true=0
 led:iO s.led=0
 heap:vW s.heap=0
 ask:jI.jo s.heap s.heap.turns=0
 keeps:jI.ou s.heap s.heap.turns≠2
 dA:qj s.dA=0
 acI:jb s.dA true=0
theorem Vt {s:jO}:bI s=0↔U5 s:=by
 unfold bI
 constructor
 ·intro h
  split at h;· omega
  split at h;· omega
  split at h;· omega
  split at h;· omega
  split at h;· omega
  split at h;· omega
  split at h;· omega
  rename_i a b c d e f g
  exact⟨by simpa using a,by simpa using b,by simpa using c,by simpa using d,e,by simpa using f,by simpa using g⟩
 ·rintro⟨a,b,c,d,e,f,g⟩
  simp[a,b,c,d,e,f,g]
theorem MS:bI dZ=0:=by decide+kernel
theorem abN (ls:List az):fO (fJ bI dZ ls).1/\U5 (fJ bI dZ ls).1:=⟨JL _ Ii,Vt.1 (Oa _ MS)⟩
theorem Y7 {ls:List az} (h:fC ls=0):fO (iZ ls)/\U5 (iZ ls):=by
 unfold iZ
 rw[aF h]
 exact abN ls
theorem Tf {f:bU} (h:fM f true=0): ∀r∈BJ f,kV r.1/\kV r.2:=by
 intro r hr
 have hf:jX f=0:=by
  unfold fM at h
  split at h
  ·omega
  ·rename_i hq;simpa using hq
 unfold BJ at hr
 obtain⟨i,_,rfl⟩:=jc.1 hr
 have:=Ld (iH hf) (bV f []) (i:Int) _ (ai _)
 exact⟨⟨by omega,by omega⟩,by omega,by omega⟩
theorem Ox {l:aQ} (h:iO l=0):(nI l).length<=5/\ ∀i∈nI l,0<=i/\i<=4:=by
 obtain⟨hS,hp⟩:=pM h
 obtain⟨_,h2,_⟩:=Oy hp
 have hm:=hS.many
 refine⟨by have:=h2.len;omega,fun i hi=>?_⟩
 have:=((LX _ _).1 h2).2 i hi
 omega
theorem Rq {l:aQ} (h:gQ l true=0): ∀r∈BQ oL l (gm l),kV r.1/\kV r.2:=by
 intro r hr
 obtain⟨hS,hp⟩:=Qd h
 obtain⟨i,hi,rfl⟩:=mF hr
 have hl:=U2 hp oL
 have ags:=aaN hp oL (i:=i) (by omega)
 rw[wQ hi] at ags
 have key: ∀d∈gm l,jC l [] d=true-> -2000<=(oL (d.getD i 0) ((kT l [] d).getD i (0,0))).1/\(oL (d.getD i 0) ((kT l [] d).getD i (0,0))).2<=2000/\ -2000<=(oL (d.getD i 0) ((kT l [] d).getD i (0,0))).2/\(oL (d.getD i 0) ((kT l [] d).getD i (0,0))).1<=2000:=fun d hd hc=>by
  have hb:=Oc hS hd hc (i:=i) (by omega)
  obtain⟨t,ht,rfl⟩:=JZ.1 hd
  have hF:=iH hS.field
  have hw:=hF.xm
  have hd2:=Hq (rate:=l.rate) (by have:=hS.rate;omega) hS.rate.2 t (abK hS ht) i (by omega)
  unfold oL
  simp only
  omega
 obtain⟨⟨⟨y,⟨d,hd,hc,rfl⟩,hy⟩,_⟩,⟨⟨z,⟨e,he,hce,rfl⟩,hz⟩,_⟩⟩:=ags
 have k1:=key d hd hc
 have k2:=key e he hce
 exact⟨⟨by omega,by omega⟩,by omega,by omega⟩
theorem GZ {s:jO} (hG:fO s) (hS:U5 s):(jI.jS s.heap s.heap.turns).length=5/\kV ((jI.jS s.heap s.heap.turns).getD 4 (0,0)).1/\kV ((jI.jS s.heap s.heap.turns).getD 4 (0,0)).2:=by
 have hl:=hG.heap.1
 unfold jI.jS
 rw[aF hS.ask,hl]
 have hne:jG s.heap s.heap.turns≠[]:=by
  have ha:=hS.ask
  unfold jI.jo at ha
  split at ha;· omega
  split at ha;· omega
  split at ha;· omega
  rename_i hq
  exact SS (by cases hq2:dQ s.heap [] <;>simp_all)
 have hb: ∀y∈jG s.heap s.heap.turns,0<=y.getD 4 0/\y.getD 4 0<=900:=fun y hy=>by
  obtain⟨t,ht,rfl⟩:=(Gv _ _ _).1 hy
  have hSo:=F7 hS.heap
  obtain⟨a1,a2,a3⟩:=jI.AX hSo ht
  have hw:=hG.Vk
  have hbd:=OZ s.heap.turns hSo.NM hSo.NL hSo.Pv hSo.Pq a2.1 a2.2 a3 (by omega)
  by_cases h4:4<(lL s.heap t s.heap.turns).length
  ·rw[wQ h4]
   exact hbd _ (dh _)
  ·rw[gV,List.getElem?_eq_none (by omega)]
   exact⟨by decide,by decide⟩
 obtain⟨_,⟨y,hy,e1⟩,⟨z,hz,e2⟩⟩:=TQ hne (n:=5) (i:=4) (by omega)
 have b1:=hb y hy
 have b2:=hb z hz
 refine⟨Qa hne,?_,?_⟩
 ·show kV ((rQ 5 (jG s.heap s.heap.turns)).getD 4 (0,0)).1
  rw[e1]
  exact⟨by omega,by omega⟩
 ·show kV ((rQ 5 (jG s.heap s.heap.turns)).getD 4 (0,0)).2
  rw[e2]
  exact⟨by omega,by omega⟩
theorem Ep (h:cZ) (t:List Int):kV (jI.ou h t):=by
 unfold jI.ou
 split
 ·exact⟨by decide,by decide⟩
 ·split
  ·exact⟨by decide,by decide⟩
  ·split <;>exact⟨by decide,by decide⟩
theorem Ia {c:bM} (h:jb c true=0): ∀r∈jB c,kV r.1/\kV r.2:=by
 intro r hr
 obtain⟨hS,h0,_⟩:=Il h
 unfold jB at hr
 obtain⟨i,hi,rfl⟩:=jc.1 hr
 have hi':=kD.1 hi
 have:=Uy hS mQ h0 (i:=c.heaps.length+i) (by unfold nC;omega) _ (ai _)
 unfold A7
 exact⟨⟨by omega,by omega⟩,by omega,by omega⟩
abbrev Tj:az:=[100,111,110,101]
abbrev lvW:az:=[108,101,97,118,101]
abbrev Qy:az:=[111,119,101,100]
abbrev UK:az:=[104,101,97,116]
abbrev UJ:az:=[107,101,101,112,115,32]
abbrev BO:az:=[99,97,115,107]
def YU (i:Int):az:=32::Lib.itoa i
theorem Ux: ∀l:List Int,(∀i∈l,0<=i/\i<=4)->(l.flatMap YU).length<=12*l.length:=by
 intro l
 induction l with
 |nil=>intro _;simp
 |cons a l ih=>
  intro h
  have h2:=ih (fun i hi=>h i (by simp[hi]))
  have h3:=h a (by simp)
  have h4:=qJ (n:=a) ⟨by omega,by omega⟩
  have h5:(YU a).length=(Lib.itoa a).length+1:=rfl
  rw[List.flatMap_cons,dm,List.length_cons]
  omega
def Gj (s:jO):az:=if nI s.led=[] then(BQ oL s.led (gm s.led)).flatMap (gW Qy) else[]
def G5 (s:jO):az:=gW UK ((jI.jS s.heap s.heap.turns).getD 4 (0,0))
def keepR (s:jO):az:=UJ++Lib.itoa (jI.ou s.heap s.heap.turns)++[10]
def nY (s:jO):az:=
 (BJ s.led.field).flatMap (gW Tj)++lvW++(nI s.led).flatMap YU++[10]++Gj s++G5 s++keepR s++(jB s.dA).flatMap (gW BO)
def Lj (ls:List az):az:=if fC ls=0 then nY (iZ ls) else[]
def alb (ls:List az) (w:World) (e:Ending) (w':World):Prop:=Below w.heap.size w w'/\e= .returned (.tuple #[.string (dG (Lj ls)),iv (fC ls)])
structure Yj (W3:World) (bs:az) (W:World):Prop where
 below:Below W3.heap.size W3 W
 buf:Buf W3.heap.size W3.heap.size bs W
 lt:W3.heap.size<W.heap.size
 len:bs.length<=500000
theorem Yj.call {W3:World} {bs:az} {W W':World} (h:Yj W3 bs W) (hb:Below W.heap.size W W'):Yj W3 bs W':=
 ⟨h.below.trans (hb.mono (by have:=h.lt;omega)),h.buf.below hb,fH h.lt hb.size,h.len⟩
theorem Yj.wrote {W3:World} {bs bs':az} {W W':World} (h:Yj W3 bs W) (hb:Buf W3.heap.size W3.heap.size bs' W') (hw:Wr W3.heap.size W W') (hl:bs'.length<=500000):Yj W3 bs' W':=
 ⟨h.below.trans hw.below,hb,fH h.lt hw.size,hl⟩
theorem vG {α:Type} {l:List α} (f:α->az) {k:Nat} (hk:k<l.length):(l.take (k+1)).flatMap f=(l.take k).flatMap f++f l[k]:=by
 rw[iC hk,uZ,List.flatMap_cons,List.flatMap_nil,List.append_nil]
theorem TW (lv:Value) (ls:List az) (w:World) (hls:iG w lv ls) (hE:Env w) (hln: ∀l∈ls,l.length<=1000000):Calls Tryz.prog 20 #[lv] w (alb ls w):=by
 have FQ:=ae hls
 have HE:Hid (∀W,Below w.heap.size w W->Env W):=ae (fun W hb=>hE.below hb (ai _))
 have Uk:=ae hln
 have h4:=hE.size
 clear hls hE hln
 obtain⟨q,hq⟩: ∃q,fC ls=q:=⟨_,rfl⟩
 have HQ:=ae hq
 go_enter Tryz.func20,Tryz.ntmps20
 go_wp2_with fail
 refine(BZ lv ls w (FQ.o) (HE.o _ (aH _ _)) (Uk.o) [] (by simp)).mono ?_
 rintro e W2 ⟨hb2,V,es,cv,he,hX,hC⟩
 rw[hq] at he
 subst he
 obtain⟨co,cc,rfl⟩:=aW hC
 have hs2:=hb2.size
 have hS2:=hX W2 (Ext.refl _ _)
 rename_i hK
 refine hK _ _ ?_
 refine aP rfl _ (by go_simp;first|rfl|exact⟨rfl,rfl⟩) ?_
 simp only[zp]
 refine aP rfl _ (by go_simp;first|rfl|exact⟨rfl,rfl⟩) ?_
 simp only[zp]
 refine aP rfl _ (by go_simp;first|rfl|exact⟨rfl,rfl⟩) ?_
 simp only[zp]
 refine aP rfl _ (by go_simp;first|rfl|exact⟨rfl,rfl⟩) ?_
 simp only[zp]
 obtain⟨g,hg⟩: ∃g,g=W2.heap.size:=⟨_,rfl⟩
 refine aP rfl (w':=W2.alloc (.cells fP 62 (0,0))) (.pointer (some ⟨g,0,none⟩)) (by rw[hg];go_simp;try rfl) ?_
 simp only[zp]
 have hz2:(W2.alloc (.cells fP 62 (0,0))).heap[g]? =some (.cells fP 62 (0,0)):=by rw[hg];exact ay _ _
 refine wpList_store_row rfl _ _ _ rfl g (dS (iZ ls) V) (by as_aux_lemma=>kernel_rfl) (by as_aux_lemma=>kernel_rfl) _ fP hz2 (by kernel_rfl) (by as_aux_lemma=>kernel_rfl) (by rw[oH];exact fun u hu=>ji hS2 u (pU.2 hu)) ?_
 simp only[zp]
 refine kW fun W3 hW3=>?_
 obtain⟨BU,oz⟩: ∃BU,BU=W2.alloc (.cells fP 62 (0,0)):=⟨_,rfl⟩
 rw[<-oz] at hW3 hz2
 have yz:Ext [g] BU W3:=by rw[hW3];exact gB
 have hs3:=yz.size
 have hs2':BU.heap.size=g+1:=by rw[oz,hg];simp
 have qL:Below W2.heap.size W2 W3:=jF (by rw[oz];exact aj (aH _ _) _) yz (by omega)
 have hk3:W3.heap[g]? =some (.cells (dS (iZ ls) V) 62 (0,0)):=by rw[hW3];exact setRow_heap _ _ _ _ _ _ hz2
 have hb3:=aY hb2 qL
 have hg3:w.heap.size<=g:=by omega
 have hgs:g<W3.heap.size:=by omega
 have H3:=ae (ag hb3 (ag hk3 (hS2.below qL (ai _))))
 clear hX hC hW3 oz yz qL hb2 hS2 hz2 hK hs2 hs3 hs2' hg hb3
 clear hq
 obtain⟨vt,vn,vw,vu,vr,vh,vk,vs⟩:=V
 obtain⟨c3,f3,l3⟩:=af hk3
 by_cases hz:q=0
 rotate_left
 ·go_wp2_with fail
  go_returns
  have hqq:fC ls≠0:=by rw[HQ.o];exact hz
  have h1:Lj ls=[]:=by unfold Lj;rw[ak hqq]
  exact⟨H3.o.1,by rw[h1,HQ.o];simp⟩
 subst hz
 have jw:=ae (Y7 HQ.o)
 have hrb:Lj ls=nY (iZ ls):=by unfold Lj;rw[aF HQ.o]
 have Nh:=ae hrb
 clear hrb
 generalize iZ ls=s at*
 go_upto_region 5 with(fail)
 refine dN fun W4 FK=>?_
 have hr4:Yj W3 [] W4:=by
  rw[FK]
  exact⟨(aH _ _).alloc (ai _) _,.inl ⟨ai _,.slice none 0 0,ay _ _,⟨rfl,.inl ⟨rfl,rfl⟩⟩,by simp[Value.ownBlock],fun q hq=>by cases hq⟩,by simp,by simp⟩
 have HR4:=ae hr4
 have HC:Hid (∀W,Below W3.heap.size W3 W->W.heap[g]? =some (.cells (dS s ⟨vt,vn,vw,vu,vr,vh,vk,vs⟩) 62 (0,0))):=ae (fun W hb=>(hb.block g hgs).trans hk3)
 have HST:Hid (∀W,Below W3.heap.size W3 W->pV W s ⟨vt,vn,vw,vu,vr,vh,vk,vs⟩ es):=ae (fun W hb=>H3.o.2.2.below hb (ai _))
 have Nk:Hid (∀W,Below W3.heap.size W3 W->Env W):=ae (fun W hb=>HE.o W (aY H3.o.1 hb))
 clear FK hr4 hk3 c3 f3 l3
 obtain⟨c4,f4,l4⟩:=af (HC.o W4 HR4.o.below)
 go_wp2_with fail
 have HD:=ae (CO s.led.field vt W4 (HST.o W4 HR4.o.below).xE)
 refine HD.o.mono ?_
 rintro e W5 ⟨hb5,⟨hne,rfl⟩|⟨_,dv,rfl,hdv⟩⟩
 ·exact absurd jw.o.2.field hne
 obtain⟨D,hD⟩: ∃D,BJ s.led.field=D:=⟨_,rfl⟩
 have hDl:D.length=2:=by rw[<-hD,Xh,jw.o.1.aK];rfl
 have HDS:Hid (∀r∈D,kV r.1/\kV r.2):=ae (by rw[<-hD];exact Tf jw.o.2.field)
 rw[hD] at hdv
 have HDE:=ae hD
 obtain⟨dO,dC,rfl⟩:=hdv.open
 have HR5:=ae (ag (HR4.o.call hb5) hdv)
 clear hb5 hdv hD c4 f4 l4
 go_wp2_with fail
 go_loopw [49] (fun i wr=> ∃k:Nat,k<=D.length/\i= .int .i64 k/\Yj W3 (([]:az)++(D.take k).flatMap (gW Tj)) wr/\aN 2 wr (.slice dO D.length dC) D.length (aG D)) (fun i _=>D.length-(intOf i).toNat)
 case atStart=>exact⟨0,bQ _,rfl,by simpa using HR5.o.1,HR5.o.2⟩
 case round=>
  obtain⟨k,hk,rfl,hR,hL⟩:=hrel
  by_cases hlt:k<D.length
  ·obtain⟨lb,RH,rfl,hlb,d1,d2⟩:=bT.cell hL hlt
   obtain⟨x,hx⟩: ∃x,D[k]=x:=⟨_,rfl⟩
   rw[hx] at d1 d2
   have hsm:=HDS.o D[k] (dh hlt)
   rw[hx] at hsm
   have htf:([]:az)++(D.take (k+1)).flatMap (gW Tj)=(([]:az)++(D.take k).flatMap (gW Tj))++gW Tj x:=by rw[vG _ hlt,hx,jg]
   have hlen:(([]:az)++(D.take (k+1)).flatMap (gW Tj)).length<=500000:=by
    have h1:=rW Tj (l:=D.take (k+1)) (fun r hr=>HDS.o r (kP hr))
    have h2:(D.take (k+1)).length<=10:=by rw[gU];omega
    rw[dm]
    have h3:(Tj:az).length+26<=40:=by decide
    have h4:=Nat.mul_le_mul h3 h2
    have h5:=hDl
    have h6:(([]:az)).length<=2000:=(by simp)
    omega
   have hR':=hR.call (aj (aH _ _) (.cells #[iv x.1,iv x.2] 42 (0,0)))
   have HW:=ae (su W3.heap.size W3.heap.size _ Tj x _ hR'.buf (ng hR'.lt) (by omega) (Nk.o _ hR'.below) hsm.1 hsm.2 (by have h1:=hR.len;have h2:(Tj:az).length<=10:=(by decide);omega))
   have HX:=ae (ag hR' (ag hL (ag htf hlen)))
   clear hR hL htf hlen hR' hsm hx
   go_wp2_with fail
   refine HW.o.mono ?_
   rintro e W6 ⟨⟨v,rfl⟩,hbu,hwr⟩
   have UU:=HX.o.1.wrote hbu hwr (by have:=HX.o.2.2.2;rwa [HX.o.2.2.1] at this)
   have hL6:=hwr.list (HX.o.2.1.alloc _) (Bq D)
   have H6:=ae (ag UU hL6)
   clear hbu hwr UU hL6
   go_wp2_with fail
   go_roundw
   case rel=>exact⟨k+1,by omega,by go_num,by rw[HX.o.2.2.1];exact H6.o.1,H6.o.2⟩
   case measure=>simp[intOf];omega
  ·have hkl:k=D.length:=by omega
   subst hkl
   rw[List.take_length] at hR
   have xH:=ae hR
   clear hR hL
   obtain⟨c6,f6,l6⟩:=af (HC.o wr xH.o.below)
   have hs1:(([]:az)++D.flatMap (gW Tj)).length<=1000:=by
    have h1:=rW Tj HDS.o
    have h3:(Tj:az).length+26<=40:=by decide
    have h4:=Nat.mul_le_mul h3 (show D.length<=2 by omega)
    simp only[List.nil_append]
    omega
   rw[List.nil_append] at xH hs1
   obtain⟨P1,hP1⟩: ∃P,D.flatMap (gW Tj)=P:=⟨_,rfl⟩
   rw[hP1] at xH hs1
   have Yl:=ae hP1
   clear hP1
   go_wp2_with fail
   refine(vz W3.heap.size W3.heap.size P1 lvW wr xH.o.buf (ng xH.o.lt) (by have:(lvW:az).length=5:=rfl;omega)).mono ?_
   rintro e W7 ⟨⟨v7,rfl⟩,hb7,hw7⟩
   have HR7:=ae (xH.o.wrote hb7 hw7 (by rw[dm];have:(lvW:az).length=5:=rfl;omega))
   clear hb7 hw7 c6 f6 l6
   obtain⟨c6,f6,l6⟩:=af (HC.o W7 HR7.o.below)
   go_wp2_with fail
   obtain⟨P2,hP2⟩: ∃P,P1++lvW=P:=⟨_,rfl⟩
   have hs2:P2.length<=1005:=by rw[<-hP2,dm];have:(lvW:az).length=5:=rfl;omega
   rw[hP2] at HR7
   have HP2:=ae hP2
   clear hP2
   have HLV:=ae (XP s.led vt vn W7 (HST.o W7 HR7.o.below).xE (HST.o W7 HR7.o.below).VY)
   refine HLV.o.mono ?_
   rintro e W8 ⟨hb8,⟨hne,rfl⟩|⟨_,v8,rfl,hv8⟩⟩
   ·exact absurd jw.o.2.led hne
   obtain⟨L,hL⟩: ∃L,nI s.led=L:=⟨_,rfl⟩
   have hLs:=Ox jw.o.2.led
   rw[hL] at hv8 hLs
   have hL5:=hLs.1
   have afk:=ae hLs.2
   have HLE:=ae hL
   obtain⟨lO,lC,rfl⟩:=hv8.open
   have HR8:=ae (ag (HR7.o.call hb8) hv8)
   clear hb8 hv8 hL hLs c6 f6 l6
   go_wp2_with fail
   go_loopw [69] (fun i wr=> ∃k:Nat,k<=L.length/\i= .int .i64 k/\Yj W3 (P2++(L.take k).flatMap YU) wr/\aN 1 wr (.slice lO L.length lC) L.length (ah L)) (fun i _=>L.length-(intOf i).toNat)
   case atStart=>exact⟨0,bQ _,rfl,by simpa using HR8.o.1,HR8.o.2⟩
   case round=>
    obtain⟨k,hk,rfl,hR,hLL⟩:=hrel
    by_cases hlt:k<L.length
    ·obtain⟨lb,RH,rfl,hlb,d1⟩:=aO.cell hLL hlt
     obtain⟨x,hx⟩: ∃x,L[k]=x:=⟨_,rfl⟩
     rw[hx] at d1
     have hsm:=afk.o L[k] (dh hlt)
     rw[hx] at hsm
     have hxs:kV x:=⟨by omega,by omega⟩
     have hil:=qJ hxs
     obtain⟨s1,ab1⟩: ∃s,Lib.itoa x=s:=⟨_,rfl⟩
     rw[ab1] at hil
     have htf:P2++(L.take (k+1)).flatMap YU=(P2++(L.take k).flatMap YU)++(32::s1):=by
      rw[vG _ hlt,hx,jg]
      unfold YU
      rw[ab1]
     have hlen:(P2++(L.take (k+1)).flatMap YU).length<=500000:=by
      have h2:=Ux (L.take (k+1)) (fun i hi=>afk.o i (kP hi))
      have h3:(L.take (k+1)).length<=5:=by rw[gU];omega
      rw[dm]
      omega
     have a1:=fun W=>jP (P:=Tryz.prog) (a:=[32]) (b:=s1) rfl (by simp;omega) W
     have HX:=ae (ag hR (ag hLL (ag htf hlen)))
     have HIT:=ae (yt x hxs wr (Nk.o _ hR.below))
     have HSX:=ae ab1
     clear hR hLL htf hlen hsm hx ab1 hxs
     go_wp2_with fail
     refine HIT.o.mono ?_
     rintro e W9 ⟨rfl,wP⟩
     rw[HSX.o]
     have XV:=ae (HX.o.1.call wP)
     have HL9:=ae (HX.o.2.1.below wP (ai _))
     clear wP
     go_wp2_with fail
     refine(vz W3.heap.size W3.heap.size _ (32::s1) W9 XV.o.buf (ng XV.o.lt) (by have:=XV.o.len;have h9:(32::s1).length=s1.length+1:=rfl;omega)).mono ?_
     rintro e W6 ⟨⟨v,rfl⟩,hbu,hwr⟩
     have UU:=XV.o.wrote hbu hwr (by have:=HX.o.2.2.2;rwa [HX.o.2.2.1] at this)
     have hL6:=hwr.list HL9.o (abX L)
     have H6:=ae (ag UU hL6)
     clear hbu hwr UU hL6
     go_wp2_with fail
     go_roundw
     case rel=>exact⟨k+1,by omega,by go_num,by rw[HX.o.2.2.1];exact H6.o.1,H6.o.2⟩
     case measure=>simp[intOf];omega
    ·have hkl:k=L.length:=by omega
     subst hkl
     rw[List.take_length] at hR
     have xH:=ae hR
     clear hR hLL
     obtain⟨P3,hP3⟩: ∃P,P2++L.flatMap YU=P:=⟨_,rfl⟩
     have hs3:P3.length<=1065:=by
      rw[<-hP3,dm]
      have:=Ux L afk.o
      omega
     rw[hP3] at xH
     have HP3:=ae hP3
     clear hP3
     go_wp2_with fail
     refine(vz W3.heap.size W3.heap.size P3 [10] wr xH.o.buf (ng xH.o.lt) (by have:([10]:az).length=1:=rfl;omega)).mono ?_
     rintro e W8' ⟨⟨v,rfl⟩,hbu,hwr⟩
     obtain⟨P4,hP4⟩: ∃P,P3++[10]=P:=⟨_,rfl⟩
     have hs4:P4.length<=1066:=by rw[<-hP4,dm];have:([10]:az).length=1:=rfl;omega
     rw[hP4] at hbu
     have XW:=ae (xH.o.wrote hbu hwr (by omega))
     have heq:nY s=P4++Gj s++G5 s++keepR s++(jB s.dA).flatMap (gW BO):=by
      unfold nY
      rw[HDE.o,HLE.o,Yl.o,HP2.o,HP3.o,hP4]
     have afr:=ae heq
     clear hbu hwr hP4 heq
     by_cases hL0:L.length=0
     ·have hLI:((L.length:Int)==0)=true:=by simp[hL0]
      have hL':L=[]:=kG hL0
      have ha:=Ik jw.o.2.led (by rw[HLE.o];exact hL')
      have HA:=ae ha
      have ho:Gj s=(BQ oL s.led (gm s.led)).flatMap (gW Qy):=by
       unfold Gj
       rw[aF (by rw[HLE.o];exact hL')]
      obtain⟨O,hO⟩: ∃O,BQ oL s.led (gm s.led)=O:=⟨_,rfl⟩
      have hO2:O.length=2:=by rw[<-hO,U2 (Qd ha).2 oL,jw.o.1.aK];rfl
      have HOS:Hid (∀r∈O,kV r.1/\kV r.2):=ae (by rw[<-hO];exact Rq ha)
      rw[hO] at ho
      have HOE:=ae hO
      have alu:=ae ho
      have WL:=HST.o W8' XW.o.below
      have HOW:=ae (Ql s.led vt vn W8' WL.xE WL.VY)
      obtain⟨c9,f9,l9⟩:=af (HC.o W8' XW.o.below)
      clear WL hL' ha ho hO
      go_wp2_with fail
      refine HOW.o.mono ?_
      rintro e W7' ⟨hb,⟨hne,rfl⟩|⟨_,ov,rfl,hov⟩⟩
      ·exact absurd HA.o hne
      rw[HOE.o] at hov
      obtain⟨oO,oC,rfl⟩:=hov.open
      have afg:=ae (ag (XW.o.call hb) hov)
      clear hb hov c9 f9 l9
      go_wp2_with fail
      go_loopw [90] (fun i wr=> ∃k:Nat,k<=O.length/\i= .int .i64 k/\Yj W3 (P4++(O.take k).flatMap (gW Qy)) wr/\aN 2 wr (.slice oO O.length oC) O.length (aG O)) (fun i _=>O.length-(intOf i).toNat)
      case atStart=>exact⟨0,bQ _,rfl,by simpa using afg.o.1,afg.o.2⟩
      case round=>
       obtain⟨k,hk,rfl,hR,hL⟩:=hrel
       by_cases hlt:k<O.length
       ·obtain⟨lb,RH,rfl,hlb,d1,d2⟩:=bT.cell hL hlt
        obtain⟨x,hx⟩: ∃x,O[k]=x:=⟨_,rfl⟩
        rw[hx] at d1 d2
        have hsm:=HOS.o O[k] (dh hlt)
        rw[hx] at hsm
        have htf:P4++(O.take (k+1)).flatMap (gW Qy)=(P4++(O.take k).flatMap (gW Qy))++gW Qy x:=by rw[vG _ hlt,hx,jg]
        have hlen:(P4++(O.take (k+1)).flatMap (gW Qy)).length<=500000:=by
         have h1:=rW Qy (l:=O.take (k+1)) (fun r hr=>HOS.o r (kP hr))
         have h2:(O.take (k+1)).length<=10:=by rw[gU];omega
         rw[dm]
         have h3:(Qy:az).length+26<=40:=by decide
         have h4:=Nat.mul_le_mul h3 h2
         have h5:=hO2
         have h6:(P4).length<=2000:=(by omega)
         omega
        have hR':=hR.call (aj (aH _ _) (.cells #[iv x.1,iv x.2] 46 (0,0)))
        have HW:=ae (su W3.heap.size W3.heap.size _ Qy x _ hR'.buf (ng hR'.lt) (by omega) (Nk.o _ hR'.below) hsm.1 hsm.2 (by have h1:=hR.len;have h2:(Qy:az).length<=10:=(by decide);omega))
        have HX:=ae (ag hR' (ag hL (ag htf hlen)))
        clear hR hL htf hlen hR' hsm hx
        go_wp2_with fail
        refine HW.o.mono ?_
        rintro e W6 ⟨⟨v,rfl⟩,hbu,hwr⟩
        have UU:=HX.o.1.wrote hbu hwr (by have:=HX.o.2.2.2;rwa [HX.o.2.2.1] at this)
        have hL6:=hwr.list (HX.o.2.1.alloc _) (Bq O)
        have H6:=ae (ag UU hL6)
        clear hbu hwr UU hL6
        go_wp2_with fail
        go_roundw
        case rel=>exact⟨k+1,by omega,by go_num,by rw[HX.o.2.2.1];exact H6.o.1,H6.o.2⟩
        case measure=>simp[intOf];omega
       ·have hkl:k=O.length:=by omega
        subst hkl
        rw[List.take_length] at hR
        have xH:=ae hR
        clear hR hL
        have abZ:(P4++O.flatMap (gW Qy)).length<=1300:=by
         have h1:=rW Qy HOS.o
         have h3:(Qy:az).length+26<=40:=by decide
         have h4:=Nat.mul_le_mul h3 (show O.length<=2 by omega)
         rw[dm]
         omega
        obtain⟨P4n,aeD⟩: ∃P,P4++O.flatMap (gW Qy)=P:=⟨_,rfl⟩
        have HEQ:Hid (nY s=P4n++G5 s++keepR s++(jB s.dA).flatMap (gW BO)):=ae (by rw[afr.o,alu.o,aeD])
        rw[aeD] at xH abZ
        clear aeD hs4 afr XW afg
        rename_i P4o
        obtain⟨W9,Md⟩: ∃W,W=wr:=⟨_,rfl⟩
        rw[<-Md] at xH
        rw[<-Md]
        have XV:=xH
        clear Md
        obtain⟨P4,ahI⟩: ∃P,P=P4n:=⟨_,rfl⟩
        rw[<-ahI] at xH abZ HEQ XV
        clear ahI
        obtain⟨c9,f9,l9⟩:=af (HC.o W9 XV.o.below)
        have uq:=HST.o W9 XV.o.below
        have HBD:=ae (jI.IE s.heap vw vu vr vu s.heap.turns W9 uq.bZ uq.IQ uq.Qw uq.IQ)
        clear uq
        go_wp2_with fail
        refine HBD.o.mono ?_
        rintro e TU ⟨bv,he,hbv,Ap⟩
        rw[jw.o.2.ask] at he
        subst he
        obtain⟨vV,hB1,hB2⟩:=GZ jw.o.1 jw.o.2
        have hhr:G5 s=gW UK ((jI.jS s.heap s.heap.turns).getD 4 (0,0)):=rfl
        obtain⟨B,hB⟩: ∃B,jI.jS s.heap s.heap.turns=B:=⟨_,rfl⟩
        rw[hB] at hbv vV hB1 hB2 hhr
        obtain⟨bO,bC,rfl⟩:=hbv.open
        obtain⟨lb,RH,rfl,hlb,d1,d2⟩:=bT.cell hbv (k:=4) (by omega)
        have hg4:B.getD 4 (0,0)=B[4]:=wQ (by omega)
        rw[hg4] at hB1 hB2 hhr
        generalize B[4]=x at*
        have Iw:=ae (XV.o.call Ap)
        have hl4:s.heap.last=4:=jw.o.1.heap.1
        have HHR:=ae hhr
        clear hbv Ap hB hhr c9 f9 l9 hg4
        obtain⟨c9,f9,l9⟩:=af (HC.o TU Iw.o.below)
        rw[vV]
        have HW:=ae (fun W hE=>su W3.heap.size W3.heap.size P4 UK x W (Iw.o.call hE).buf (ng (Iw.o.call hE).lt) (by omega) (Nk.o _ (Iw.o.call hE).below) hB1 hB2 (by have h2:(UK:az).length<=10:=(by decide);omega))
        have hwl:=Cm (word:=UK) hB1 hB2
        clear hB1 hB2 vV
        go_wp2_with fail
        refine zg 15 [] none [] ?_
        simp only[zt]
        repeat ((first|refine zn ?_|refine zk ?_);simp only[zp])
        intro W hE hF
        have hbE:=hE.below
        clear hE hF
        go_wp2_with fail
        refine(HW.o W hbE).mono ?_
        rintro e W11 ⟨⟨v11,rfl⟩,hbu,hwr⟩
        obtain⟨P5,hP5⟩: ∃P,P4++gW UK x=P:=⟨_,rfl⟩
        have hs5:P5.length<=1340:=by rw[<-hP5,dm];have:(UK:az).length=4:=rfl;omega
        rw[hP5] at hbu
        have Uf:=ae ((Iw.o.call hbE).wrote hbu hwr (by omega))
        have Z4:nY s=P5++keepR s++(jB s.dA).flatMap (gW BO):=by rw[HEQ.o,HHR.o,hP5]
        have afq:=ae Z4
        clear hbu hwr hP5 Z4 c9 f9 l9 hbE hwl d1 d2 hl4
        obtain⟨c9,f9,l9⟩:=af (HC.o W11 Uf.o.below)
        have uq:=HST.o W11 Uf.o.below
        have HKP:=ae (jI.D7 s.heap vw vu vr vu s.heap.turns W11 uq.bZ uq.IQ uq.Qw uq.IQ)
        have hkr:keepR s=UJ++Lib.itoa (jI.ou s.heap s.heap.turns)++[10]:=rfl
        have hks:=Ep s.heap s.heap.turns
        obtain⟨kq,hkq⟩: ∃k,jI.ou s.heap s.heap.turns=k:=⟨_,rfl⟩
        rw[hkq] at hkr hks
        have HKQ:=ae hkq
        clear uq hkq
        go_wp2_with fail
        refine HKP.o.mono ?_
        rintro e Yi ⟨he,SI⟩
        rw[HKQ.o,jw.o.2.ask] at he
        subst he
        have aa9:=ae (Uf.o.call SI)
        have hil:=qJ hks
        have HIT:=ae (yt kq hks Yi (Nk.o _ aa9.o.below))
        obtain⟨s2,SB⟩: ∃s,Lib.itoa kq=s:=⟨_,rfl⟩
        rw[SB] at hil hkr
        have HS2:=ae SB
        have HKR:=ae hkr
        have a1:=fun W=>jP (P:=Tryz.prog) (a:=UJ) (b:=s2) rfl (by have:(UJ:az).length=6:=rfl;omega) W
        have a2:=fun W=>jP (P:=Tryz.prog) (a:=UJ++s2) (b:=[10]) rfl (by rw[dm];have:(UJ:az).length=6:=rfl;have:([10]:az).length=1:=rfl;omega) W
        clear SI hks SB hkr c9 f9 l9
        go_wp2_with fail
        refine HIT.o.mono ?_
        rintro e W13 ⟨rfl,Mc⟩
        rw[HS2.o]
        have Ue:=ae (aa9.o.call Mc)
        clear Mc
        go_wp2_with fail
        refine(vz W3.heap.size W3.heap.size P5 _ W13 Ue.o.buf (ng Ue.o.lt) (by simp;omega)).mono ?_
        rintro e U4 ⟨⟨v14,rfl⟩,hbu,hwr⟩
        obtain⟨P6,Ye⟩: ∃P,P5++keepR s=P:=⟨_,rfl⟩
        have hs6:P6.length<=1000+400:=by
         rw[<-Ye,HKR.o,dm,dm,dm]
         have:(UJ:az).length=6:=rfl
         have:([10]:az).length=1:=rfl
         omega
        have Z9:Buf W3.heap.size W3.heap.size P6 U4:=by
         rw[<-Ye,HKR.o]
         simpa using hbu
        have Ud:=ae (Ue.o.wrote Z9 hwr (by omega))
        have ZZ:nY s=P6++(jB s.dA).flatMap (gW BO):=by rw[afq.o,Ye]
        have afp:=ae ZZ
        clear hbu Z9 hwr Ye ZZ a1 a2
        obtain⟨c9,f9,l9⟩:=af (HC.o U4 Ud.o.below)
        have HCB:=ae (yl s.dA vh vk vs es U4 (HST.o U4 Ud.o.below).dA)
        go_wp2_with fail
        refine HCB.o.mono ?_
        rintro e XK ⟨aac,⟨hne,rfl⟩|⟨_,ajQ,ak3,rfl,hhv,hcv⟩⟩
        ·exact absurd jw.o.2.acI hne
        obtain⟨C,hC⟩: ∃C,jB s.dA=C:=⟨_,rfl⟩
        have hC3:C.length<=3:=by rw[<-hC];unfold jB;rw[mD,List.length_range];exact jw.o.1.aU
        have HCS:Hid (∀r∈C,kV r.1/\kV r.2):=ae (by rw[<-hC];exact Ia jw.o.2.acI)
        rw[hC] at hcv
        have HCE:=ae hC
        obtain⟨hO,hCc,rfl⟩:=hhv.open
        obtain⟨cO,cC,rfl⟩:=hcv.open
        have aa8:=ae (ag (Ud.o.call aac) hcv)
        clear aac hhv hcv hC c9 f9 l9
        go_wp2_with fail
        go_loopw [149] (fun i wr=> ∃k:Nat,k<=C.length/\i= .int .i64 k/\Yj W3 (P6++(C.take k).flatMap (gW BO)) wr/\aN 2 wr (.slice cO C.length cC) C.length (aG C)) (fun i _=>C.length-(intOf i).toNat)
        case atStart=>exact⟨0,bQ _,rfl,by simpa using aa8.o.1,aa8.o.2⟩
        case round=>
         obtain⟨k,hk,rfl,hR,hL⟩:=hrel
         by_cases hlt:k<C.length
         ·obtain⟨lb,RH,rfl,hlb,d1,d2⟩:=bT.cell hL hlt
          obtain⟨x,hx⟩: ∃x,C[k]=x:=⟨_,rfl⟩
          rw[hx] at d1 d2
          have hsm:=HCS.o C[k] (dh hlt)
          rw[hx] at hsm
          have htf:P6++(C.take (k+1)).flatMap (gW BO)=(P6++(C.take k).flatMap (gW BO))++gW BO x:=by rw[vG _ hlt,hx,jg]
          have hlen:(P6++(C.take (k+1)).flatMap (gW BO)).length<=500000:=by
           have h1:=rW BO (l:=C.take (k+1)) (fun r hr=>HCS.o r (kP hr))
           have h2:(C.take (k+1)).length<=10:=by rw[gU];omega
           rw[dm]
           have h3:(BO:az).length+26<=40:=by decide
           have h4:=Nat.mul_le_mul h3 h2
           have h5:=hC3
           have h6:(P6).length<=2000:=(by omega)
           omega
          have hR':=hR.call (aj (aH _ _) (.cells #[iv x.1,iv x.2] 129 (0,0)))
          have HW:=ae (su W3.heap.size W3.heap.size _ BO x _ hR'.buf (ng hR'.lt) (by omega) (Nk.o _ hR'.below) hsm.1 hsm.2 (by have h1:=hR.len;have h2:(BO:az).length<=10:=(by decide);omega))
          have HX:=ae (ag hR' (ag hL (ag htf hlen)))
          clear hR hL htf hlen hR' hsm hx
          go_wp2_with fail
          refine HW.o.mono ?_
          rintro e W6 ⟨⟨v,rfl⟩,hbu,hwr⟩
          have UU:=HX.o.1.wrote hbu hwr (by have:=HX.o.2.2.2;rwa [HX.o.2.2.1] at this)
          have hL6:=hwr.list (HX.o.2.1.alloc _) (Bq C)
          have H6:=ae (ag UU hL6)
          clear hbu hwr UU hL6
          go_wp2_with fail
          go_roundw
          case rel=>exact⟨k+1,by omega,by go_num,by rw[HX.o.2.2.1];exact H6.o.1,H6.o.2⟩
          case measure=>simp[intOf];omega
         ·have hkl:k=C.length:=by omega
          subst hkl
          rw[List.take_length] at hR
          have xH:=ae hR
          clear hR hL
          obtain⟨P7,SK⟩: ∃P,P6++C.flatMap (gW BO)=P:=⟨_,rfl⟩
          rw[SK] at xH
          have Vb:Hid (Lj ls=P7):=ae (by rw[Nh.o,afp.o,HCE.o,SK])
          clear SK
          go_wp2_with fail
          refine(Tryz.Builder_String_any_k W3.heap.size W3.heap.size P7 wr (Lib.IsBuilderF.of xH.o.buf.is) (ng xH.o.lt)).mono ?_
          rintro e W16 ⟨rfl,_,hb16,_⟩
          have afx:=ae (H3.o.1.trans ((xH.o.below.trans hb16).mono H3.o.1.size))
          clear hb16
          go_wp2_with fail
          go_returns
          exact⟨afx.o,by rw[Vb.o,HQ.o];simp⟩
     ·have hLI:((L.length:Int)==0)=false:=by simp;exact fun h=>hL0 (by simp[h])
      have ho:Gj s=[]:=by
       unfold Gj
       rw[HLE.o,ak (fun h=>hL0 (by rw[h];rfl))]
      have HEQ:Hid (nY s=P4++G5 s++keepR s++(jB s.dA).flatMap (gW BO)):=ae (by rw[afr.o,ho,List.append_nil])
      clear ho hL0
      have abZ:P4.length<=1300:=by omega
      obtain⟨W9,Md⟩: ∃W,W=W8':=⟨_,rfl⟩
      rw[<-Md] at XW
      rw[<-Md]
      have XV:=XW
      clear Md
      obtain⟨c9,f9,l9⟩:=af (HC.o W9 XV.o.below)
      have uq:=HST.o W9 XV.o.below
      have HBD:=ae (jI.IE s.heap vw vu vr vu s.heap.turns W9 uq.bZ uq.IQ uq.Qw uq.IQ)
      clear uq
      go_wp2_with fail
      refine HBD.o.mono ?_
      rintro e TU ⟨bv,he,hbv,Ap⟩
      rw[jw.o.2.ask] at he
      subst he
      obtain⟨vV,hB1,hB2⟩:=GZ jw.o.1 jw.o.2
      have hhr:G5 s=gW UK ((jI.jS s.heap s.heap.turns).getD 4 (0,0)):=rfl
      obtain⟨B,hB⟩: ∃B,jI.jS s.heap s.heap.turns=B:=⟨_,rfl⟩
      rw[hB] at hbv vV hB1 hB2 hhr
      obtain⟨bO,bC,rfl⟩:=hbv.open
      obtain⟨lb,RH,rfl,hlb,d1,d2⟩:=bT.cell hbv (k:=4) (by omega)
      have hg4:B.getD 4 (0,0)=B[4]:=wQ (by omega)
      rw[hg4] at hB1 hB2 hhr
      generalize B[4]=x at*
      have Iw:=ae (XV.o.call Ap)
      have hl4:s.heap.last=4:=jw.o.1.heap.1
      have HHR:=ae hhr
      clear hbv Ap hB hhr c9 f9 l9 hg4
      obtain⟨c9,f9,l9⟩:=af (HC.o TU Iw.o.below)
      rw[vV]
      have HW:=ae (fun W hE=>su W3.heap.size W3.heap.size P4 UK x W (Iw.o.call hE).buf (ng (Iw.o.call hE).lt) (by omega) (Nk.o _ (Iw.o.call hE).below) hB1 hB2 (by have h2:(UK:az).length<=10:=(by decide);omega))
      have hwl:=Cm (word:=UK) hB1 hB2
      clear hB1 hB2 vV
      go_wp2_with fail
      refine zg 15 [] none [] ?_
      simp only[zt]
      repeat ((first|refine zn ?_|refine zk ?_);simp only[zp])
      intro W hE hF
      have hbE:=hE.below
      clear hE hF
      go_wp2_with fail
      refine(HW.o W hbE).mono ?_
      rintro e W11 ⟨⟨v11,rfl⟩,hbu,hwr⟩
      obtain⟨P5,hP5⟩: ∃P,P4++gW UK x=P:=⟨_,rfl⟩
      have hs5:P5.length<=1340:=by rw[<-hP5,dm];have:(UK:az).length=4:=rfl;omega
      rw[hP5] at hbu
      have Uf:=ae ((Iw.o.call hbE).wrote hbu hwr (by omega))
      have Z4:nY s=P5++keepR s++(jB s.dA).flatMap (gW BO):=by rw[HEQ.o,HHR.o,hP5]
      have afq:=ae Z4
      clear hbu hwr hP5 Z4 c9 f9 l9 hbE hwl d1 d2 hl4
      obtain⟨c9,f9,l9⟩:=af (HC.o W11 Uf.o.below)
      have uq:=HST.o W11 Uf.o.below
      have HKP:=ae (jI.D7 s.heap vw vu vr vu s.heap.turns W11 uq.bZ uq.IQ uq.Qw uq.IQ)
      have hkr:keepR s=UJ++Lib.itoa (jI.ou s.heap s.heap.turns)++[10]:=rfl
      have hks:=Ep s.heap s.heap.turns
      obtain⟨kq,hkq⟩: ∃k,jI.ou s.heap s.heap.turns=k:=⟨_,rfl⟩
      rw[hkq] at hkr hks
      have HKQ:=ae hkq
      clear uq hkq
      go_wp2_with fail
      refine HKP.o.mono ?_
      rintro e Yi ⟨he,SI⟩
      rw[HKQ.o,jw.o.2.ask] at he
      subst he
      have aa9:=ae (Uf.o.call SI)
      have hil:=qJ hks
      have HIT:=ae (yt kq hks Yi (Nk.o _ aa9.o.below))
      obtain⟨s2,SB⟩: ∃s,Lib.itoa kq=s:=⟨_,rfl⟩
      rw[SB] at hil hkr
      have HS2:=ae SB
      have HKR:=ae hkr
      have a1:=fun W=>jP (P:=Tryz.prog) (a:=UJ) (b:=s2) rfl (by have:(UJ:az).length=6:=rfl;omega) W
      have a2:=fun W=>jP (P:=Tryz.prog) (a:=UJ++s2) (b:=[10]) rfl (by rw[dm];have:(UJ:az).length=6:=rfl;have:([10]:az).length=1:=rfl;omega) W
      clear SI hks SB hkr c9 f9 l9
      go_wp2_with fail
      refine HIT.o.mono ?_
      rintro e W13 ⟨rfl,Mc⟩
      rw[HS2.o]
      have Ue:=ae (aa9.o.call Mc)
      clear Mc
      go_wp2_with fail
      refine(vz W3.heap.size W3.heap.size P5 _ W13 Ue.o.buf (ng Ue.o.lt) (by simp;omega)).mono ?_
      rintro e U4 ⟨⟨v14,rfl⟩,hbu,hwr⟩
      obtain⟨P6,Ye⟩: ∃P,P5++keepR s=P:=⟨_,rfl⟩
      have hs6:P6.length<=1000+400:=by
       rw[<-Ye,HKR.o,dm,dm,dm]
       have:(UJ:az).length=6:=rfl
       have:([10]:az).length=1:=rfl
       omega
      have Z9:Buf W3.heap.size W3.heap.size P6 U4:=by
       rw[<-Ye,HKR.o]
       simpa using hbu
      have Ud:=ae (Ue.o.wrote Z9 hwr (by omega))
      have ZZ:nY s=P6++(jB s.dA).flatMap (gW BO):=by rw[afq.o,Ye]
      have afp:=ae ZZ
      clear hbu Z9 hwr Ye ZZ a1 a2
      obtain⟨c9,f9,l9⟩:=af (HC.o U4 Ud.o.below)
      have HCB:=ae (yl s.dA vh vk vs es U4 (HST.o U4 Ud.o.below).dA)
      go_wp2_with fail
      refine HCB.o.mono ?_
      rintro e XK ⟨aac,⟨hne,rfl⟩|⟨_,ajQ,ak3,rfl,hhv,hcv⟩⟩
      ·exact absurd jw.o.2.acI hne
      obtain⟨C,hC⟩: ∃C,jB s.dA=C:=⟨_,rfl⟩
      have hC3:C.length<=3:=by rw[<-hC];unfold jB;rw[mD,List.length_range];exact jw.o.1.aU
      have HCS:Hid (∀r∈C,kV r.1/\kV r.2):=ae (by rw[<-hC];exact Ia jw.o.2.acI)
      rw[hC] at hcv
      have HCE:=ae hC
      obtain⟨hO,hCc,rfl⟩:=hhv.open
      obtain⟨cO,cC,rfl⟩:=hcv.open
      have aa8:=ae (ag (Ud.o.call aac) hcv)
      clear aac hhv hcv hC c9 f9 l9
      go_wp2_with fail
      go_loopw [149] (fun i wr=> ∃k:Nat,k<=C.length/\i= .int .i64 k/\Yj W3 (P6++(C.take k).flatMap (gW BO)) wr/\aN 2 wr (.slice cO C.length cC) C.length (aG C)) (fun i _=>C.length-(intOf i).toNat)
      case atStart=>exact⟨0,bQ _,rfl,by simpa using aa8.o.1,aa8.o.2⟩
      case round=>
       obtain⟨k,hk,rfl,hR,hL⟩:=hrel
       by_cases hlt:k<C.length
       ·obtain⟨lb,RH,rfl,hlb,d1,d2⟩:=bT.cell hL hlt
        obtain⟨x,hx⟩: ∃x,C[k]=x:=⟨_,rfl⟩
        rw[hx] at d1 d2
        have hsm:=HCS.o C[k] (dh hlt)
        rw[hx] at hsm
        have htf:P6++(C.take (k+1)).flatMap (gW BO)=(P6++(C.take k).flatMap (gW BO))++gW BO x:=by rw[vG _ hlt,hx,jg]
        have hlen:(P6++(C.take (k+1)).flatMap (gW BO)).length<=500000:=by
         have h1:=rW BO (l:=C.take (k+1)) (fun r hr=>HCS.o r (kP hr))
         have h2:(C.take (k+1)).length<=10:=by rw[gU];omega
         rw[dm]
         have h3:(BO:az).length+26<=40:=by decide
         have h4:=Nat.mul_le_mul h3 h2
         have h5:=hC3
         have h6:(P6).length<=2000:=(by omega)
         omega
        have hR':=hR.call (aj (aH _ _) (.cells #[iv x.1,iv x.2] 129 (0,0)))
        have HW:=ae (su W3.heap.size W3.heap.size _ BO x _ hR'.buf (ng hR'.lt) (by omega) (Nk.o _ hR'.below) hsm.1 hsm.2 (by have h1:=hR.len;have h2:(BO:az).length<=10:=(by decide);omega))
        have HX:=ae (ag hR' (ag hL (ag htf hlen)))
        clear hR hL htf hlen hR' hsm hx
        go_wp2_with fail
        refine HW.o.mono ?_
        rintro e W6 ⟨⟨v,rfl⟩,hbu,hwr⟩
        have UU:=HX.o.1.wrote hbu hwr (by have:=HX.o.2.2.2;rwa [HX.o.2.2.1] at this)
        have hL6:=hwr.list (HX.o.2.1.alloc _) (Bq C)
        have H6:=ae (ag UU hL6)
        clear hbu hwr UU hL6
        go_wp2_with fail
        go_roundw
        case rel=>exact⟨k+1,by omega,by go_num,by rw[HX.o.2.2.1];exact H6.o.1,H6.o.2⟩
        case measure=>simp[intOf];omega
       ·have hkl:k=C.length:=by omega
        subst hkl
        rw[List.take_length] at hR
        have xH:=ae hR
        clear hR hL
        obtain⟨P7,SK⟩: ∃P,P6++C.flatMap (gW BO)=P:=⟨_,rfl⟩
        rw[SK] at xH
        have Vb:Hid (Lj ls=P7):=ae (by rw[Nh.o,afp.o,HCE.o,SK])
        clear SK
        go_wp2_with fail
        refine(Tryz.Builder_String_any_k W3.heap.size W3.heap.size P7 wr (Lib.IsBuilderF.of xH.o.buf.is) (ng xH.o.lt)).mono ?_
        rintro e W16 ⟨rfl,_,hb16,_⟩
        have afx:=ae (H3.o.1.trans ((xH.o.below.trans hb16).mono H3.o.1.size))
        clear hb16
        go_wp2_with fail
        go_returns
        exact⟨afx.o,by rw[Vb.o,HQ.o];simp⟩
def dgF:Nat->Nat->az
 |0,_=>[]
 |f+1,n=>if n<10 then[zH n] else dgF f (n/10)++[zH (n%10)]
theorem aaz: ∀(f n:Nat),n<f->Lib.decDigits n=dgF f n:=by
 intro f
 induction f with
 |zero=>intro n h;omega
 |succ f ih=>
  intro n h
  unfold dgF
  by_cases hn:n<10
  ·rw[kK hn,aF hn]
  ·rw[wU hn,ak hn,ih (n/10) (by omega)]
def J7 (n:Int):az:=if n<0 then 45::dgF (n.natAbs+1) n.natAbs else dgF (n.toNat+1) n.toNat
theorem Bv (n:Int):Lib.itoa n=J7 n:=by
 unfold Lib.itoa J7
 rw[aaz _ _ (Nat.lt_succ_self _),aaz _ _ (Nat.lt_succ_self _)]
def Jp (word:az) (r:dR):az:=word++[32]++J7 r.1++[46,46]++J7 r.2++[10]
theorem Yv (word:az):gW word=Jp word:=by
 funext r
 unfold gW Jp
 rw[Bv,Bv]
def spF (i:Int):az:=32::J7 i
def Lh (s:jO):az:=
 (BJ s.led.field).flatMap (Jp Tj)++lvW++(nI s.led).flatMap spF++[10]++(if nI s.led=[] then(BQ oL s.led (gm s.led)).flatMap (Jp Qy) else[])
   ++Jp UK ((jI.jS s.heap s.heap.turns).getD 4 (0,0))++(UJ++J7 (jI.ou s.heap s.heap.turns)++[10])++(jB s.dA).flatMap (Jp BO)
theorem adQ:YU=spF:=by
 funext i
 unfold YU spF
 rw[Bv]
theorem Q5 (s:jO):nY s=Lh s:=by
 unfold nY Lh Gj G5 keepR
 simp only[Yv,Bv,adQ]
def jU:List az:=[[114,111,119],
 [108,101,102,116,32,48,32,48],
 [116,97,108,108,121,32,48,32,48,32,50,32,50,32,51],
 [116,97,108,108,121,32,49,32,50,32,51,32,49,32,50],
 [98,111,120,32,50,48,32,50,50],
 [110,111,116,101,32,48,32,49,48,32,49,53],
 [116,117,114,110,32,51],
 [119,101,116,32,49,32,56,32,57],
 [105,114,111,110,32,49,32,52,52,32,48],
 [99,97,115,107,32,48,32,49,48],
 [104,101,97,112,32,54,48,32,54,51],
 [102,105,108,108,32,48,32,49,32,49,48],
 [116,114,121,32,48,32,53,49,32,53,50]]
def rF:List az:=[[119,97,115,104,32,49,32,52,32,53],
 [116,117,114,110,32,51],
 [114,97,116,101,32,48,53]]
def af4:az:=[100,111,110,101,32,50,46,46,51,10,100,111,110,101,32,49,46,46,50,10,108,101,97,118,101,10,111,119,101,100,32,53,46,46,50,48,10,111,119,101,100,32,48,46,46,49,53,10,104,101,97,116,32,51,55,46,46,51,55,10,107,101,101,112,115,32,49,10,99,97,115,107,32,53,49,46,46,53,49,10]
theorem Ve:(fJ bI dZ (jU++rF)).2=[0,0,0,0,0,0,0,0,0,0,0,0,0,2,6,4]:=by decide+kernel
theorem sF:fC jU=0/\fC (jU++rF)=0:=by decide+kernel
theorem Jn:JS jU=0/\JU jU=[(5,20),(0,15)]:=by decide+kernel
theorem Jm:Jt jU=0/\Ju jU=[0]:=by decide+kernel
theorem Yt:Lh (fJ bI dZ jU).1=af4:=by decide+kernel
end Go.Proofs.YthllkbbbapgelaaGreatDoor.Bk
end
section
namespace Go.Proofs.YthllkbbbapgelaaGreatDoor.Bk
open Go.Lib Go.RowKit Go.RG Go.SL Go.Shelf jy Go.TB Go.Proofs.YthllkbbbapgelaaGreatDoor.AQ
theorem Sr (l:List Int) (v u:Value) (w:World) (h:aO w v l) (k:aO w u l):Calls Tryz.prog 30 #[v,u] w (PV (.bool true) w):=by
 obtain⟨o1,q1,rfl⟩:=aN.open h
 obtain⟨o2,q2,rfl⟩:=aN.open k
 have hl1:=h.len
 have HH:=ae (ag h k)
 clear h k
 have hne:((l.length:Int) !=(l.length:Int))=false:=by simp
 go_enter Tryz.func30,Tryz.ntmps30
 go_wp2_with fail
 go_loopw [5] (fun i wr=> ∃k:Nat,k<=l.length/\i= .int .i64 k/\Below w.heap.size w wr) (fun i _=>l.length-(intOf i).toNat)
 case atStart=>exact⟨0,bQ _,rfl,aH _ _⟩
 case round=>
  obtain⟨k,hk,rfl,hB⟩:=hrel
  by_cases hlt:k<l.length
  ·obtain⟨g1,f1,e1,r1,c1⟩:=aO.cell (HH.o.1.below hB (ai _)) hlt
   obtain⟨g2,f2,e2,r2,c2⟩:=aO.cell (HH.o.2.below hB (ai _)) hlt
   generalize l[k]=x at*
   have HX:=ae hB
   have Fb:(k:Int)<l.length:=by omega
   cases e1
   cases e2
   clear hB
   have hnb:(x !=x)=false:=by simp
   have hnc:(x==x)=true:=by simp
   go_wp2_with fail
   go_region
   all_goals go_wp2_with fail
   all_goals go_roundw
   all_goals first
    |exact⟨k+1,by omega,by go_num,qG HX.o⟩
    |(simp[intOf];omega)
  ·have HR:=ae hB
   clear hB
   go_wp2_with fail
   go_returns
   exact⟨rfl,HR.o⟩
theorem Xn (l:List Int) (v u:Value) (w:World) (h:aO w v l) (k:aO w u l):Calls Tryz.prog 22 #[v,u] w (PV (.bool true) w):=by
 obtain⟨o1,q1,rfl⟩:=aN.open h
 obtain⟨o2,q2,rfl⟩:=aN.open k
 have hl1:=h.len
 have HH:=ae (ag h k)
 clear h k
 have hne:((l.length:Int) !=(l.length:Int))=false:=by simp
 go_enter Tryz.func22,Tryz.ntmps22
 go_wp2_with fail
 go_loopw [5] (fun i wr=> ∃k:Nat,k<=l.length/\i= .int .i64 k/\Below w.heap.size w wr) (fun i _=>l.length-(intOf i).toNat)
 case atStart=>exact⟨0,bQ _,rfl,aH _ _⟩
 case round=>
  obtain⟨k,hk,rfl,hB⟩:=hrel
  by_cases hlt:k<l.length
  ·obtain⟨g1,f1,e1,r1,c1⟩:=aO.cell (HH.o.1.below hB (ai _)) hlt
   obtain⟨g2,f2,e2,r2,c2⟩:=aO.cell (HH.o.2.below hB (ai _)) hlt
   generalize l[k]=x at*
   have HX:=ae hB
   have Fb:(k:Int)<l.length:=by omega
   cases e1
   cases e2
   clear hB
   have hnb:(x !=x)=false:=by simp
   have hnc:(x==x)=true:=by simp
   go_wp2_with fail
   go_region
   all_goals go_wp2_with fail
   all_goals go_roundw
   all_goals first
    |exact⟨k+1,by omega,by go_num,qG HX.o⟩
    |(simp[intOf];omega)
  ·have HR:=ae hB
   clear hB
   go_wp2_with fail
   go_returns
   exact⟨rfl,HR.o⟩
theorem Jw (l:List az) (v u:Value) (w:World) (h:iG w v l) (k:iG w u l):Calls Tryz.prog 14 #[v,u] w (PV (.bool true) w):=by
 obtain⟨o1,q1,rfl⟩:=aN.open h
 obtain⟨o2,q2,rfl⟩:=aN.open k
 have hl1:=h.len
 have HH:=ae (ag h k)
 clear h k
 have hne:((l.length:Int) !=(l.length:Int))=false:=by simp
 go_enter Tryz.func14,Tryz.ntmps14
 go_wp2_with fail
 go_loopw [5] (fun i wr=> ∃k:Nat,k<=l.length/\i= .int .i64 k/\Below w.heap.size w wr) (fun i _=>l.length-(intOf i).toNat)
 case atStart=>exact⟨0,bQ _,rfl,aH _ _⟩
 case round=>
  obtain⟨k,hk,rfl,hB⟩:=hrel
  by_cases hlt:k<l.length
  ·obtain⟨g1,f1,e1,r1,c1⟩:=qf (HH.o.1.below hB (ai _)) hlt
   obtain⟨g2,f2,e2,r2,c2⟩:=qf (HH.o.2.below hB (ai _)) hlt
   generalize l[k]=x at*
   have HX:=ae hB
   have Fb:(k:Int)<l.length:=by omega
   cases e1
   cases e2
   clear hB
   have hnb:(x !=x)=false:=by simp
   have hnc:(x==x)=true:=by simp
   go_wp2_with fail
   go_region
   all_goals go_wp2_with fail
   all_goals go_roundw
   all_goals first
    |exact⟨k+1,by omega,by go_num,qG HX.o⟩
    |(simp[intOf];omega)
  ·have HR:=ae hB
   clear hB
   go_wp2_with fail
   go_returns
   exact⟨rfl,HR.o⟩
theorem AY (ls:List az): ∀u∈bH ls,u.oneCell'=true:=fun u hu=>by
 obtain⟨x,_,rfl⟩:=jc.1 hu
 rfl
def Qk (ls:List az) (w:World) (e:Ending) (w':World):Prop:= ∃o c,e= .returned (.slice o ls.length c)/\w'.ownsRow w.heap.size 9 1 (.slice o ls.length c) ls.length (bH ls)/\Below w.heap.size w w'
theorem RI (ls:List az) (v:Value) (w:World) (hv:iG w v ls) (hl:ls.length*16<=140737488355328):Calls Tryz.prog 11 #[v] w (Qk ls w):=by
 obtain⟨lo,lc,rfl⟩:=aN.open hv
 have HV:=ae hv
 clear hv
 go_enter Tryz.func11,Tryz.ntmps11
 go_wp2_with (at_builtin;go_loud (refine fQ rfl _ _ Ut rfl w.heap.size (.slice (some ⟨w.heap.size,0,none⟩) 0 0) 0 [] rfl (iM (cs:= #[]) (n:=0) (ay _ _) rfl (ai _) (by decide)) (.slice lo ls.length lc) (ls).length (bH (ls)) rfl (aN.alloc (HV.o) _) (AY (ls)) (by omega) (by omega) (by simp) ?_))
 intro v' W2 hown hgr _
 (try rw[Nat.zero_add] at hown)
 (try rw[List.nil_append] at hown)
 obtain⟨o2,c2,rfl⟩:=aW hown
 have hB2:Below w.heap.size w W2:=Below.grown (aj (aH _ _) _) hgr (by simp) (fun g e=>by simp[Value.ownBlock] at e;omega)
 have HC2:=ae (ag hB2 hown)
 have hz2:=hB2.size
 clear hown hgr hB2
 go_wp2_with fail
 go_returns
 exact⟨_,_,rfl,HC2.o.2,HC2.o.1⟩
theorem Nr (ls:List az) (v:Value) (w:World) (hv:iG w v ls) (hl:ls.length<=1000):Calls Tryz.prog 19 #[v] w (Qk (jU++ls) w):=by
 obtain⟨lo,lc,rfl⟩:=aN.open hv
 have HV:=ae hv
 clear hv
 have agY:jU.length=13:=rfl
 have HYL:Hid ((jU++ls).length=13+ls.length):=ae (by rw[dm,agY])
 have HYC:Hid (bH jU++bH ls=bH (jU++ls)):=ae (by simp[bH])
 clear agY
 go_enter Tryz.func19,Tryz.ntmps19
 go_wp2_with (at_builtin;go_loud (refine fQ rfl _ _ Ut rfl w.heap.size (.slice (some ⟨w.heap.size,0,none⟩) 13 13) 13 (bH jU) rfl (iM (cs:=(bH jU).toArray) (n:=13) (ay _ _) rfl (ai _) (by decide)) (.slice lo ls.length lc) ls.length (bH ls) rfl (aN.alloc HV.o _) (AY ls) (by omega) (by omega) (by simp) ?_))
 intro v' W2 hown hgr _
 rw[HYC.o] at hown
 obtain⟨o2,c2,rfl⟩:=aW hown
 have hB2:Below w.heap.size w W2:=Below.grown (aj (aH _ _) _) hgr (by simp) (fun g e=>by simp[Value.ownBlock] at e;omega)
 have HC2:=ae (ag hB2 hown)
 clear hown hgr hB2
 go_wp2_with fail
 go_returns
 unfold Qk
 rw[HYL.o]
 exact⟨_,_,rfl,HC2.o.2,HC2.o.1⟩
end Go.Proofs.YthllkbbbapgelaaGreatDoor.Bk
end
section
namespace Go.Proofs.YthllkbbbapgelaaGreatDoor
open Go.RowKit Go.RG Go.SL jy Go.Deep
section
variable {H : Type} {enc : TypeId × Value → H} {P : Program} {W : World} {base b0 : Nat} {spare : Nat → Bool} {held : Bool} {r : Reach}
theorem VU {α:Type} [Inhabited α] (f:α->List Value) (k:Nat) (hk0:0<k) (hf: ∀x,(f x).length=k) {t e:TypeId} (ht:P.underlying t=some (.slice e)) (hk:P.cellsOf e=k)
 (hel: ∀fuel cs x,DataW.trod enc P W base spare held fuel e cs=some x-> ∃y:α,cs=f y)
 {v:Value} (hok:Cell.ok P W r b0 t v) {fuel:Nat} {x:DataW H×List MemPlace} (h:DataW.trod enc P W base spare held fuel t [v]=some x):
 ∃l:List α,aN k W v l.length (l.flatMap f):=by
 rcases open_slice ht h with⟨hc,_⟩|⟨a,len,cap,m,n,D,Pl,hc,hb,hl,hm,hmm,_,hx⟩
 ·cases hc
  exact⟨[],aN.nil k W⟩
 ·cases hc
  have hsp:a.spot=none:=by
   simp only[Cell.ok,ht,World.has] at hok
   exact hok.2.2.2.1
  have hlm:len<=m:=by rw[hmm];split <;>omega
  have each: ∀i,i<m-> ∃y:α, ∀j u,(f y)[j]? =some u->W.cell? ⟨a.block,a.off+(i*k+j),none⟩=some u:=by
   intro i hi
   obtain⟨cs',h1,h2⟩:=hx i hi
   rw[hk] at h1
   obtain⟨_,hlen,hcell⟩:=World.cells?_some h1
   obtain⟨y,rfl⟩:=hel _ _ _ h2
   refine⟨y,fun j u hj=>?_⟩
   have hjk:j<k:=by rw[<-hf y];exact(je.1 hj).1
   have h3:=hcell j hjk
   rw[add_add] at h3
   obtain⟨b,off,sp⟩:=a
   simp only at hsp
   subst hsp
   rw[Addr.add_lit] at h3
   rw[h3,hj]
  obtain⟨Y,hY⟩:=choose_lt each
  have hlen:((List.range len).map Y).length=len:=by simp
  refine⟨(List.range len).map Y,?_,some a,cap,by rw[hlen],by rw[hlen];exact hl,hm,(fun h=>by cases h),fun a' ha=>?_⟩
  ·have: ∀l:List α,(l.flatMap f).length=l.length*k:=by
    intro l
    induction l with
    |nil=>simp
    |cons z l ih=>rw[List.flatMap_cons,dm,hf,ih,List.length_cons,Nat.add_mul];omega
   exact this _
  ·cases ha
   refine⟨hsp,fun j u hj=>?_⟩
   have hjl:j<(((List.range len).map Y).flatMap f).length:=(je.1 hj).1
   have agX:(((List.range len).map Y).flatMap f).length=len*k:=by
    have: ∀l:List α,(l.flatMap f).length=l.length*k:=by
     intro l
     induction l with
     |nil=>simp
     |cons z l ih=>rw[List.flatMap_cons,dm,hf,ih,List.length_cons,Nat.add_mul];omega
    rw[this,hlen]
   rw[agX] at hjl
   have hi:j/k<len:=(Nat.div_lt_iff_lt_mul hk0).2 hjl
   have hr:j%k<k:=Nat.mod_lt _ hk0
   have e:j/k*k+j%k=j:=by rw[Nat.mul_comm];exact Nat.div_add_mod j k
   have:=jA f k hf ((List.range len).map Y) (j/k) (j%k) (by rw[hlen];exact hi) hr
   rw[e,hj] at this
   simp only[List.getElem_map,List.getElem_range] at this
   have h4:=hY (j/k) (by omega) (j%k) u this.symm
   rw[e] at h4
   exact h4
end
section
variable {H : Type} {enc : TypeId × Value → H} {W : World} {base b0 : Nat} {spare : Nat → Bool} {held : Bool} {r : Reach}
end
theorem zL {H:Type} {enc:TypeId×Value->H} {P:Program} (hl:laidOutB P=true) {ts:List TypeId} (hr:(ts.all fun t=>P.readableRec t&&decide (t<P.types.size))=true) {W W':World} {vs:List Value} {ds:List (DataW H)} {ps:List MemPlace}
 (h:DataW.TrodAll enc P W 0 (fun _=>true) true ts vs ds ps) (hb:Below W.heap.size W W') (hlt: ∀x∈ps,x.block<W.heap.size):
 DataW.TrodAll enc P W' 0 (fun b=>decide (b<W.heap.size)) true ts vs ds ps:=by
 induction ts generalizing vs ds ps with
 |nil=>
  cases vs <;>cases ds <;>simp_all [DataW.TrodAll]
 |cons t ts ih=>
  cases vs with
  |nil=>cases ds <;>simp_all [DataW.TrodAll]
  |cons v vs=>
   cases ds with
   |nil=>simp_all [DataW.TrodAll]
   |cons d ds=>
    obtain⟨p,q,h1,h2,rfl⟩:=h
    simp only[List.all_cons,eG,eX] at hr
    exact⟨p,q,Below.trod hl hr.1.1 hr.1.2 h1 hb (fun x hx=>hlt x (by simp[hx])),ih (by simpa using hr.2) h2 (fun x hx=>hlt x (by simp[hx])),rfl⟩
end Go.Proofs.YthllkbbbapgelaaGreatDoor
end

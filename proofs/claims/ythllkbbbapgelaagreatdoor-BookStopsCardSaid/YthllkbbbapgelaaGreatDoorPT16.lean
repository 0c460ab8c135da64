/-
  Texts of this claim, packed by a program: EJ EH EL EM FC HD FE HS.
-/
import Derived.WalkKit
import Derived.WalkLawsBesides
import Derived.WalkSpells
import Derived.Outline
import Derived.Handy
import Derived.KernelRfl
import Derived.Lib.Hide
import Derived.BigRegion
import Derived.Laws.DeepStrings4
import Derived.Test.YthllkbbbapgelaaGreatDoorPT15
set_option maxHeartbeats 8000000
set_option maxRecDepth 100000
set_option linter.all false
section
namespace Go.Proofs.YthllkbbbapgelaaGreatDoor.Bk
open Go.RowKit Go.RG Go.SL Go.Shelf jl Go.TB Go.Proofs.YthllkbbbapgelaaGreatDoor.zo
abbrev Si:az:=[100,111,110,101]
abbrev lvW:az:=[108,101,97,118,101]
abbrev PT:az:=[111,119,101,100]
abbrev Uc:az:=[104,101,97,116]
abbrev Ub:az:=[107,101,101,112,115,32]
abbrev Bl:az:=[99,97,115,107]
def Yj (i:Int):az:=32::Lib.itoa i
theorem TR: ∀l:List Int,(∀i∈l,0<=i/\i<=4)->(l.flatMap Yj).length<=12*l.length:=by
 intro l
 induction l with
 |nil=>intro _;simp
 |cons a l ih=>
  intro h
  have h2:=ih (fun i hi=>h i (by simp[hi]))
  have h3:=h a (by simp)
  have h4:=qJ (n:=a) ⟨by omega,by omega⟩
  have h5:(Yj a).length=(Lib.itoa a).length+1:=rfl
  rw[List.flatMap_cons,dh,List.length_cons]
  omega
def FO (s:jJ):az:=if nz s.led=[] then(Bv oI s.led (gm s.led)).flatMap (gX PT) else[]
def Gp (s:jJ):az:=gX Uc ((jD.jM s.heap s.heap.turns).getD 4 (0,0))
def keepR (s:jJ):az:=Ub++Lib.itoa (jD.nV s.heap s.heap.turns)++[10]
def nS (s:jJ):az:=
 (Bf s.led.field).flatMap (gX Si)++lvW++(nz s.led).flatMap Yj++[10]++FO s++Gp s++keepR s++(jv s.dw).flatMap (gX Bl)
def KG (ls:List az):az:=if fH ls=0 then nS (iV ls) else[]
def akN (ls:List az) (w:World) (e:Ending) (w':World):Prop:=Below w.heap.size w w'/\e= .returned (.tuple #[.string (gI (KG ls)),iv (fH ls)])
structure XJ (W3:World) (bs:az) (W:World):Prop where
 below:Below W3.heap.size W3 W
 buf:Buf W3.heap.size W3.heap.size bs W
 lt:W3.heap.size<W.heap.size
 len:bs.length<=500000
theorem XJ.call {W3:World} {bs:az} {W W':World} (h:XJ W3 bs W) (hb:Below W.heap.size W W'):XJ W3 bs W':=
 ⟨h.below.trans (hb.mono (by have:=h.lt;omega)),h.buf.below hb,fJ h.lt hb.size,h.len⟩
theorem XJ.wrote {W3:World} {bs bs':az} {W W':World} (h:XJ W3 bs W) (hb:Buf W3.heap.size W3.heap.size bs' W') (hw:Wr W3.heap.size W W') (hl:bs'.length<=500000):XJ W3 bs' W':=
 ⟨h.below.trans hw.below,hb,fJ h.lt hw.size,hl⟩
theorem uX {α:Type} {l:List α} (f:α->az) {k:Nat} (hk:k<l.length):(l.take (k+1)).flatMap f=(l.take k).flatMap f++f l[k]:=by
 rw[iC hk,uP,List.flatMap_cons,List.flatMap_nil,List.append_nil]
theorem Ti (lv:Value) (ls:List az) (w:World) (hls:iU w lv ls) (hE:Env w) (hln: ∀l∈ls,l.length<=1000000):Calls Tryz.prog 20 #[lv] w (akN ls w):=by
 have EY:=ae hls
 have HE:Hid (∀W,Below w.heap.size w W->Env W):=ae (fun W hb=>hE.below hb (ai _))
 have TI:=ae hln
 have h4:=hE.size
 clear hls hE hln
 obtain⟨q,hq⟩: ∃q,fH ls=q:=⟨_,rfl⟩
 have HQ:=ae hq
 go_enter Tryz.func20,Tryz.ntmps20
 go_wp2_with fail
 refine(BD lv ls w (EY.o) (HE.o _ (aH _ _)) (TI.o) [] (by simp)).mono ?_
 rintro e W2 ⟨hb2,V,es,cv,he,hX,hC⟩
 rw[hq] at he
 subst he
 obtain⟨co,cc,rfl⟩:=aW hC
 have hs2:=hb2.size
 have hS2:=hX W2 (Ext.refl _ _)
 rename_i hK
 refine hK _ _ ?_
 refine aP rfl _ (by go_simp;first|rfl|exact⟨rfl,rfl⟩) ?_
 simp only[zp]
 refine aP rfl _ (by go_simp;first|rfl|exact⟨rfl,rfl⟩) ?_
 simp only[zp]
 refine aP rfl _ (by go_simp;first|rfl|exact⟨rfl,rfl⟩) ?_
 simp only[zp]
 refine aP rfl _ (by go_simp;first|rfl|exact⟨rfl,rfl⟩) ?_
 simp only[zp]
 obtain⟨g,hg⟩: ∃g,g=W2.heap.size:=⟨_,rfl⟩
 refine aP rfl (w':=W2.alloc (.cells fQ 62 (0,0))) (.pointer (some ⟨g,0,none⟩)) (by rw[hg];go_simp;try rfl) ?_
 simp only[zp]
 have hz2:(W2.alloc (.cells fQ 62 (0,0))).heap[g]? =some (.cells fQ 62 (0,0)):=by rw[hg];exact ay _ _
 refine wpList_store_row rfl _ _ _ rfl g (dR (iV ls) V) (by as_aux_lemma=>kernel_rfl) (by as_aux_lemma=>kernel_rfl) _ fQ hz2 (by kernel_rfl) (by as_aux_lemma=>kernel_rfl) (by rw[oz];exact fun u hu=>jd hS2 u (pK.2 hu)) ?_
 simp only[zp]
 refine kM fun W3 hW3=>?_
 obtain⟨BA,nX⟩: ∃BA,BA=W2.alloc (.cells fQ 62 (0,0)):=⟨_,rfl⟩
 rw[<-nX] at hW3 hz2
 have xZ:Ext [g] BA W3:=by rw[hW3];exact gB
 have hs3:=xZ.size
 have hs2':BA.heap.size=g+1:=by rw[nX,hg];simp
 have qL:Below W2.heap.size W2 W3:=jA (by rw[nX];exact ak (aH _ _) _) xZ (by omega)
 have hk3:W3.heap[g]? =some (.cells (dR (iV ls) V) 62 (0,0)):=by rw[hW3];exact setRow_heap _ _ _ _ _ _ hz2
 have hb3:=bn hb2 qL
 have hg3:w.heap.size<=g:=by omega
 have hgs:g<W3.heap.size:=by omega
 have H3:=ae (ag hb3 (ag hk3 (hS2.below qL (ai _))))
 clear hX hC hW3 nX xZ qL hb2 hS2 hz2 hK hs2 hs3 hs2' hg hb3
 clear hq
 obtain⟨vt,vn,vw,vu,vr,vh,vk,vs⟩:=V
 obtain⟨c3,f3,l3⟩:=af hk3
 by_cases hz:q=0
 rotate_left
 ·go_wp2_with fail
  go_returns
  have hqq:fH ls≠0:=by rw[HQ.o];exact hz
  have h1:KG ls=[]:=by unfold KG;rw[aj hqq]
  exact⟨H3.o.1,by rw[h1,HQ.o];simp⟩
 subst hz
 have jq:=ae (Yx HQ.o)
 have hrb:KG ls=nS (iV ls):=by unfold KG;rw[aF HQ.o]
 have L9:=ae hrb
 clear hrb
 generalize iV ls=s at*
 go_upto_region 5 with(fail)
 refine dM fun W4 ER=>?_
 have hr4:XJ W3 [] W4:=by
  rw[ER]
  exact⟨(aH _ _).alloc (ai _) _,.inl ⟨ai _,.slice none 0 0,ay _ _,⟨rfl,.inl ⟨rfl,rfl⟩⟩,by simp[Value.ownBlock],fun q hq=>by cases hq⟩,by simp,by simp⟩
 have HR4:=ae hr4
 have HC:Hid (∀W,Below W3.heap.size W3 W->W.heap[g]? =some (.cells (dR s ⟨vt,vn,vw,vu,vr,vh,vk,vs⟩) 62 (0,0))):=ae (fun W hb=>(hb.block g hgs).trans hk3)
 have HST:Hid (∀W,Below W3.heap.size W3 W->pM W s ⟨vt,vn,vw,vu,vr,vh,vk,vs⟩ es):=ae (fun W hb=>H3.o.2.2.below hb (ai _))
 have UF:Hid (∀W,Below W3.heap.size W3 W->Env W):=ae (fun W hb=>HE.o W (bn H3.o.1 hb))
 clear ER hr4 hk3 c3 f3 l3
 obtain⟨c4,f4,l4⟩:=af (HC.o W4 HR4.o.below)
 go_wp2_with fail
 have HD:=ae (BN s.led.field vt W4 (HST.o W4 HR4.o.below).xn)
 refine HD.o.mono ?_
 rintro e W5 ⟨hb5,⟨hne,rfl⟩|⟨_,dv,rfl,hdv⟩⟩
 ·exact absurd jq.o.2.field hne
 obtain⟨D,hD⟩: ∃D,Bf s.led.field=D:=⟨_,rfl⟩
 have hDl:D.length=2:=by rw[<-hD,WG,jq.o.1.aK];rfl
 have HDS:Hid (∀r∈D,kL r.1/\kL r.2):=ae (by rw[<-hD];exact RY jq.o.2.field)
 rw[hD] at hdv
 have HDE:=ae hD
 obtain⟨dO,dC,rfl⟩:=hdv.open
 have HR5:=ae (ag (HR4.o.call hb5) hdv)
 clear hb5 hdv hD c4 f4 l4
 go_wp2_with fail
 go_loopw [49] (fun i wr=> ∃k:Nat,k<=D.length/\i= .int .i64 k/\XJ W3 (([]:az)++(D.take k).flatMap (gX Si)) wr/\aN 2 wr (.slice dO D.length dC) D.length (aG D)) (fun i _=>D.length-(intOf i).toNat)
 case atStart=>exact⟨0,bM _,rfl,by simpa using HR5.o.1,HR5.o.2⟩
 case round=>
  obtain⟨k,hk,rfl,hR,hL⟩:=hrel
  by_cases hlt:k<D.length
  ·obtain⟨lb,QV,rfl,hlb,d1,d2⟩:=bP.cell hL hlt
   obtain⟨x,hx⟩: ∃x,D[k]=x:=⟨_,rfl⟩
   rw[hx] at d1 d2
   have hsm:=HDS.o D[k] (df hlt)
   rw[hx] at hsm
   have htf:([]:az)++(D.take (k+1)).flatMap (gX Si)=(([]:az)++(D.take k).flatMap (gX Si))++gX Si x:=by rw[uX _ hlt,hx,kZ]
   have hlen:(([]:az)++(D.take (k+1)).flatMap (gX Si)).length<=500000:=by
    have h1:=rU Si (l:=D.take (k+1)) (fun r hr=>HDS.o r (nZ hr))
    have h2:(D.take (k+1)).length<=10:=by rw[gJ];omega
    rw[dh]
    have h3:(Si:az).length+26<=40:=by decide
    have h4:=Nat.mul_le_mul h3 h2
    have h5:=hDl
    have h6:(([]:az)).length<=2000:=(by simp)
    omega
   have hR':=hR.call (ak (aH _ _) (.cells #[iv x.1,iv x.2] 42 (0,0)))
   have HW:=ae (rY W3.heap.size W3.heap.size _ Si x _ hR'.buf (mV hR'.lt) (by omega) (UF.o _ hR'.below) hsm.1 hsm.2 (by have h1:=hR.len;have h2:(Si:az).length<=10:=(by decide);omega))
   have HX:=ae (ag hR' (ag hL (ag htf hlen)))
   clear hR hL htf hlen hR' hsm hx
   go_wp2_with fail
   refine HW.o.mono ?_
   rintro e W6 ⟨⟨v,rfl⟩,hbu,hwr⟩
   have Uk:=HX.o.1.wrote hbu hwr (by have:=HX.o.2.2.2;rwa [HX.o.2.2.1] at this)
   have hL6:=hwr.list (HX.o.2.1.alloc _) (AU D)
   have H6:=ae (ag Uk hL6)
   clear hbu hwr Uk hL6
   go_wp2_with fail
   go_roundw
   case rel=>exact⟨k+1,by omega,by go_num,by rw[HX.o.2.2.1];exact H6.o.1,H6.o.2⟩
   case measure=>simp[intOf];omega
  ·have hkl:k=D.length:=by omega
   subst hkl
   rw[List.take_length] at hR
   have xu:=ae hR
   clear hR hL
   obtain⟨c6,f6,l6⟩:=af (HC.o wr xu.o.below)
   have hs1:(([]:az)++D.flatMap (gX Si)).length<=1000:=by
    have h1:=rU Si HDS.o
    have h3:(Si:az).length+26<=40:=by decide
    have h4:=Nat.mul_le_mul h3 (show D.length<=2 by omega)
    simp only[List.nil_append]
    omega
   rw[List.nil_append] at xu hs1
   obtain⟨P1,hP1⟩: ∃P,D.flatMap (gX Si)=P:=⟨_,rfl⟩
   rw[hP1] at xu hs1
   have XK:=ae hP1
   clear hP1
   go_wp2_with fail
   refine(uT W3.heap.size W3.heap.size P1 lvW wr xu.o.buf (mV xu.o.lt) (by have:(lvW:az).length=5:=rfl;omega)).mono ?_
   rintro e W7 ⟨⟨v7,rfl⟩,hb7,hw7⟩
   have HR7:=ae (xu.o.wrote hb7 hw7 (by rw[dh];have:(lvW:az).length=5:=rfl;omega))
   clear hb7 hw7 c6 f6 l6
   obtain⟨c6,f6,l6⟩:=af (HC.o W7 HR7.o.below)
   go_wp2_with fail
   obtain⟨P2,hP2⟩: ∃P,P1++lvW=P:=⟨_,rfl⟩
   have hs2:P2.length<=1005:=by rw[<-hP2,dh];have:(lvW:az).length=5:=rfl;omega
   rw[hP2] at HR7
   have HP2:=ae hP2
   clear hP2
   have HLV:=ae (Xp s.led vt vn W7 (HST.o W7 HR7.o.below).xn (HST.o W7 HR7.o.below).Vr)
   refine HLV.o.mono ?_
   rintro e W8 ⟨hb8,⟨hne,rfl⟩|⟨_,v8,rfl,hv8⟩⟩
   ·exact absurd jq.o.2.led hne
   obtain⟨L,hL⟩: ∃L,nz s.led=L:=⟨_,rfl⟩
   have hLs:=NQ jq.o.2.led
   rw[hL] at hv8 hLs
   have hL5:=hLs.1
   have aeR:=ae hLs.2
   have HLE:=ae hL
   obtain⟨lO,lC,rfl⟩:=hv8.open
   have HR8:=ae (ag (HR7.o.call hb8) hv8)
   clear hb8 hv8 hL hLs c6 f6 l6
   go_wp2_with fail
   go_loopw [69] (fun i wr=> ∃k:Nat,k<=L.length/\i= .int .i64 k/\XJ W3 (P2++(L.take k).flatMap Yj) wr/\aN 1 wr (.slice lO L.length lC) L.length (ah L)) (fun i _=>L.length-(intOf i).toNat)
   case atStart=>exact⟨0,bM _,rfl,by simpa using HR8.o.1,HR8.o.2⟩
   case round=>
    obtain⟨k,hk,rfl,hR,hLL⟩:=hrel
    by_cases hlt:k<L.length
    ·obtain⟨lb,QV,rfl,hlb,d1⟩:=aO.cell hLL hlt
     obtain⟨x,hx⟩: ∃x,L[k]=x:=⟨_,rfl⟩
     rw[hx] at d1
     have hsm:=aeR.o L[k] (df hlt)
     rw[hx] at hsm
     have hxs:kL x:=⟨by omega,by omega⟩
     have hil:=qJ hxs
     obtain⟨s1,abx⟩: ∃s,Lib.itoa x=s:=⟨_,rfl⟩
     rw[abx] at hil
     have htf:P2++(L.take (k+1)).flatMap Yj=(P2++(L.take k).flatMap Yj)++(32::s1):=by
      rw[uX _ hlt,hx,kZ]
      unfold Yj
      rw[abx]
     have hlen:(P2++(L.take (k+1)).flatMap Yj).length<=500000:=by
      have h2:=TR (L.take (k+1)) (fun i hi=>aeR.o i (nZ hi))
      have h3:(L.take (k+1)).length<=5:=by rw[gJ];omega
      rw[dh]
      omega
     have a1:=fun W=>qB (P:=Tryz.prog) (a:=[32]) (b:=s1) rfl (by simp;omega) W
     have HX:=ae (ag hR (ag hLL (ag htf hlen)))
     have HIT:=ae (xU x hxs wr (UF.o _ hR.below))
     have HSX:=ae abx
     clear hR hLL htf hlen hsm hx abx hxs
     go_wp2_with fail
     refine HIT.o.mono ?_
     rintro e W9 ⟨rfl,wE⟩
     rw[HSX.o]
     have Xv:=ae (HX.o.1.call wE)
     have HL9:=ae (HX.o.2.1.below wE (ai _))
     clear wE
     go_wp2_with fail
     refine(uT W3.heap.size W3.heap.size _ (32::s1) W9 Xv.o.buf (mV Xv.o.lt) (by have:=Xv.o.len;have h9:(32::s1).length=s1.length+1:=rfl;omega)).mono ?_
     rintro e W6 ⟨⟨v,rfl⟩,hbu,hwr⟩
     have Uk:=Xv.o.wrote hbu hwr (by have:=HX.o.2.2.2;rwa [HX.o.2.2.1] at this)
     have hL6:=hwr.list HL9.o (abu L)
     have H6:=ae (ag Uk hL6)
     clear hbu hwr Uk hL6
     go_wp2_with fail
     go_roundw
     case rel=>exact⟨k+1,by omega,by go_num,by rw[HX.o.2.2.1];exact H6.o.1,H6.o.2⟩
     case measure=>simp[intOf];omega
    ·have hkl:k=L.length:=by omega
     subst hkl
     rw[List.take_length] at hR
     have xu:=ae hR
     clear hR hLL
     obtain⟨P3,hP3⟩: ∃P,P2++L.flatMap Yj=P:=⟨_,rfl⟩
     have hs3:P3.length<=1065:=by
      rw[<-hP3,dh]
      have:=TR L aeR.o
      omega
     rw[hP3] at xu
     have HP3:=ae hP3
     clear hP3
     go_wp2_with fail
     refine(uT W3.heap.size W3.heap.size P3 [10] wr xu.o.buf (mV xu.o.lt) (by have:([10]:az).length=1:=rfl;omega)).mono ?_
     rintro e W8' ⟨⟨v,rfl⟩,hbu,hwr⟩
     obtain⟨P4,hP4⟩: ∃P,P3++[10]=P:=⟨_,rfl⟩
     have hs4:P4.length<=1066:=by rw[<-hP4,dh];have:([10]:az).length=1:=rfl;omega
     rw[hP4] at hbu
     have Xw:=ae (xu.o.wrote hbu hwr (by omega))
     have heq:nS s=P4++FO s++Gp s++keepR s++(jv s.dw).flatMap (gX Bl):=by
      unfold nS
      rw[HDE.o,HLE.o,XK.o,HP2.o,HP3.o,hP4]
     have aeY:=ae heq
     clear hbu hwr hP4 heq
     by_cases hL0:L.length=0
     ·have hLI:((L.length:Int)==0)=true:=by simp[hL0]
      have hL':L=[]:=ku hL0
      have ha:=Ha jq.o.2.led (by rw[HLE.o];exact hL')
      have HA:=ae ha
      have ho:FO s=(Bv oI s.led (gm s.led)).flatMap (gX PT):=by
       unfold FO
       rw[aF (by rw[HLE.o];exact hL')]
      obtain⟨O,hO⟩: ∃O,Bv oI s.led (gm s.led)=O:=⟨_,rfl⟩
      have hO2:O.length=2:=by rw[<-hO,Ut (Pq ha).2 oI,jq.o.1.aK];rfl
      have HOS:Hid (∀r∈O,kL r.1/\kL r.2):=ae (by rw[<-hO];exact QL ha)
      rw[hO] at ho
      have HOE:=ae hO
      have ak4:=ae ho
      have VV:=HST.o W8' Xw.o.below
      have HOW:=ae (PG s.led vt vn W8' VV.xn VV.Vr)
      obtain⟨c9,f9,l9⟩:=af (HC.o W8' Xw.o.below)
      clear VV hL' ha ho hO
      go_wp2_with fail
      refine HOW.o.mono ?_
      rintro e W7' ⟨hb,⟨hne,rfl⟩|⟨_,ov,rfl,hov⟩⟩
      ·exact absurd HA.o hne
      rw[HOE.o] at hov
      obtain⟨oO,oC,rfl⟩:=hov.open
      have aeM:=ae (ag (Xw.o.call hb) hov)
      clear hb hov c9 f9 l9
      go_wp2_with fail
      go_loopw [90] (fun i wr=> ∃k:Nat,k<=O.length/\i= .int .i64 k/\XJ W3 (P4++(O.take k).flatMap (gX PT)) wr/\aN 2 wr (.slice oO O.length oC) O.length (aG O)) (fun i _=>O.length-(intOf i).toNat)
      case atStart=>exact⟨0,bM _,rfl,by simpa using aeM.o.1,aeM.o.2⟩
      case round=>
       obtain⟨k,hk,rfl,hR,hL⟩:=hrel
       by_cases hlt:k<O.length
       ·obtain⟨lb,QV,rfl,hlb,d1,d2⟩:=bP.cell hL hlt
        obtain⟨x,hx⟩: ∃x,O[k]=x:=⟨_,rfl⟩
        rw[hx] at d1 d2
        have hsm:=HOS.o O[k] (df hlt)
        rw[hx] at hsm
        have htf:P4++(O.take (k+1)).flatMap (gX PT)=(P4++(O.take k).flatMap (gX PT))++gX PT x:=by rw[uX _ hlt,hx,kZ]
        have hlen:(P4++(O.take (k+1)).flatMap (gX PT)).length<=500000:=by
         have h1:=rU PT (l:=O.take (k+1)) (fun r hr=>HOS.o r (nZ hr))
         have h2:(O.take (k+1)).length<=10:=by rw[gJ];omega
         rw[dh]
         have h3:(PT:az).length+26<=40:=by decide
         have h4:=Nat.mul_le_mul h3 h2
         have h5:=hO2
         have h6:(P4).length<=2000:=(by omega)
         omega
        have hR':=hR.call (ak (aH _ _) (.cells #[iv x.1,iv x.2] 46 (0,0)))
        have HW:=ae (rY W3.heap.size W3.heap.size _ PT x _ hR'.buf (mV hR'.lt) (by omega) (UF.o _ hR'.below) hsm.1 hsm.2 (by have h1:=hR.len;have h2:(PT:az).length<=10:=(by decide);omega))
        have HX:=ae (ag hR' (ag hL (ag htf hlen)))
        clear hR hL htf hlen hR' hsm hx
        go_wp2_with fail
        refine HW.o.mono ?_
        rintro e W6 ⟨⟨v,rfl⟩,hbu,hwr⟩
        have Uk:=HX.o.1.wrote hbu hwr (by have:=HX.o.2.2.2;rwa [HX.o.2.2.1] at this)
        have hL6:=hwr.list (HX.o.2.1.alloc _) (AU O)
        have H6:=ae (ag Uk hL6)
        clear hbu hwr Uk hL6
        go_wp2_with fail
        go_roundw
        case rel=>exact⟨k+1,by omega,by go_num,by rw[HX.o.2.2.1];exact H6.o.1,H6.o.2⟩
        case measure=>simp[intOf];omega
       ·have hkl:k=O.length:=by omega
        subst hkl
        rw[List.take_length] at hR
        have xu:=ae hR
        clear hR hL
        have abw:(P4++O.flatMap (gX PT)).length<=1300:=by
         have h1:=rU PT HOS.o
         have h3:(PT:az).length+26<=40:=by decide
         have h4:=Nat.mul_le_mul h3 (show O.length<=2 by omega)
         rw[dh]
         omega
        obtain⟨P4n,ad7⟩: ∃P,P4++O.flatMap (gX PT)=P:=⟨_,rfl⟩
        have HEQ:Hid (nS s=P4n++Gp s++keepR s++(jv s.dw).flatMap (gX Bl)):=ae (by rw[aeY.o,ak4.o,ad7])
        rw[ad7] at xu abw
        clear ad7 hs4 aeY Xw aeM
        rename_i P4o
        obtain⟨W9,Lm⟩: ∃W,W=wr:=⟨_,rfl⟩
        rw[<-Lm] at xu
        rw[<-Lm]
        have Xv:=xu
        clear Lm
        obtain⟨P4,ahh⟩: ∃P,P=P4n:=⟨_,rfl⟩
        rw[<-ahh] at xu abw HEQ Xv
        clear ahh
        obtain⟨c9,f9,l9⟩:=af (HC.o W9 Xv.o.below)
        have uf:=HST.o W9 Xv.o.below
        have HBD:=ae (jD.Hy s.heap vw vu vr vu s.heap.turns W9 uf.bW uf.Ih uf.PR uf.Ih)
        clear uf
        go_wp2_with fail
        refine HBD.o.mono ?_
        rintro e Td ⟨bv,he,hbv,zU⟩
        rw[jq.o.2.ask] at he
        subst he
        obtain⟨xg,hB1,hB2⟩:=Gn jq.o.1 jq.o.2
        have hhr:Gp s=gX Uc ((jD.jM s.heap s.heap.turns).getD 4 (0,0)):=rfl
        obtain⟨B,hB⟩: ∃B,jD.jM s.heap s.heap.turns=B:=⟨_,rfl⟩
        rw[hB] at hbv xg hB1 hB2 hhr
        obtain⟨bO,bC,rfl⟩:=hbv.open
        obtain⟨lb,QV,rfl,hlb,d1,d2⟩:=bP.cell hbv (k:=4) (by omega)
        have hg4:B.getD 4 (0,0)=B[4]:=wF (by omega)
        rw[hg4] at hB1 hB2 hhr
        generalize B[4]=x at*
        have Ho:=ae (Xv.o.call zU)
        have hl4:s.heap.last=4:=jq.o.1.heap.1
        have HHR:=ae hhr
        clear hbv zU hB hhr c9 f9 l9 hg4
        obtain⟨c9,f9,l9⟩:=af (HC.o Td Ho.o.below)
        rw[xg]
        have HW:=ae (fun W hE=>rY W3.heap.size W3.heap.size P4 Uc x W (Ho.o.call hE).buf (mV (Ho.o.call hE).lt) (by omega) (UF.o _ (Ho.o.call hE).below) hB1 hB2 (by have h2:(Uc:az).length<=10:=(by decide);omega))
        have hwl:=BL (word:=Uc) hB1 hB2
        clear hB1 hB2 xg
        go_wp2_with fail
        refine zg 15 [] none [] ?_
        simp only[zt]
        repeat ((first|refine zn ?_|refine zk ?_);simp only[zp])
        intro W hE hF
        have hbE:=hE.below
        clear hE hF
        go_wp2_with fail
        refine(HW.o W hbE).mono ?_
        rintro e W11 ⟨⟨v11,rfl⟩,hbu,hwr⟩
        obtain⟨P5,hP5⟩: ∃P,P4++gX Uc x=P:=⟨_,rfl⟩
        have hs5:P5.length<=1340:=by rw[<-hP5,dh];have:(Uc:az).length=4:=rfl;omega
        rw[hP5] at hbu
        have Tz:=ae ((Ho.o.call hbE).wrote hbu hwr (by omega))
        have Zw:nS s=P5++keepR s++(jv s.dw).flatMap (gX Bl):=by rw[HEQ.o,HHR.o,hP5]
        have aeX:=ae Zw
        clear hbu hwr hP5 Zw c9 f9 l9 hbE hwl d1 d2 hl4
        obtain⟨c9,f9,l9⟩:=af (HC.o W11 Tz.o.below)
        have uf:=HST.o W11 Tz.o.below
        have HKP:=ae (jD.Dc s.heap vw vu vr vu s.heap.turns W11 uf.bW uf.Ih uf.PR uf.Ih)
        have hkr:keepR s=Ub++Lib.itoa (jD.nV s.heap s.heap.turns)++[10]:=rfl
        have hks:=Dy s.heap s.heap.turns
        obtain⟨kq,hkq⟩: ∃k,jD.nV s.heap s.heap.turns=k:=⟨_,rfl⟩
        rw[hkq] at hkr hks
        have HKQ:=ae hkq
        clear uf hkq
        go_wp2_with fail
        refine HKP.o.mono ?_
        rintro e XI ⟨he,RD⟩
        rw[HKQ.o,jq.o.2.ask] at he
        subst he
        have aaA:=ae (Tz.o.call RD)
        have hil:=qJ hks
        have HIT:=ae (xU kq hks XI (UF.o _ aaA.o.below))
        obtain⟨s2,Ru⟩: ∃s,Lib.itoa kq=s:=⟨_,rfl⟩
        rw[Ru] at hil hkr
        have HS2:=ae Ru
        have HKR:=ae hkr
        have a1:=fun W=>qB (P:=Tryz.prog) (a:=Ub) (b:=s2) rfl (by have:(Ub:az).length=6:=rfl;omega) W
        have a2:=fun W=>qB (P:=Tryz.prog) (a:=Ub++s2) (b:=[10]) rfl (by rw[dh];have:(Ub:az).length=6:=rfl;have:([10]:az).length=1:=rfl;omega) W
        clear RD hks Ru hkr c9 f9 l9
        go_wp2_with fail
        refine HIT.o.mono ?_
        rintro e W13 ⟨rfl,Ll⟩
        rw[HS2.o]
        have Tv:=ae (aaA.o.call Ll)
        clear Ll
        go_wp2_with fail
        refine(uT W3.heap.size W3.heap.size P5 _ W13 Tv.o.buf (mV Tv.o.lt) (by simp;omega)).mono ?_
        rintro e Uw ⟨⟨v14,rfl⟩,hbu,hwr⟩
        obtain⟨P6,XE⟩: ∃P,P5++keepR s=P:=⟨_,rfl⟩
        have hs6:P6.length<=1000+400:=by
         rw[<-XE,HKR.o,dh,dh,dh]
         have:(Ub:az).length=6:=rfl
         have:([10]:az).length=1:=rfl
         omega
        have ZA:Buf W3.heap.size W3.heap.size P6 Uw:=by
         rw[<-XE,HKR.o]
         simpa using hbu
        have Tu:=ae (Tv.o.wrote ZA hwr (by omega))
        have Zv:nS s=P6++(jv s.dw).flatMap (gX Bl):=by rw[aeX.o,XE]
        have aeW:=ae Zv
        clear hbu ZA hwr XE Zv a1 a2
        obtain⟨c9,f9,l9⟩:=af (HC.o Uw Tu.o.below)
        have HCB:=ae (xR s.dw vh vk vs es Uw (HST.o Uw Tu.o.below).dw)
        go_wp2_with fail
        refine HCB.o.mono ?_
        rintro e Xk ⟨ZC,⟨hne,rfl⟩|⟨_,ajr,akE,rfl,hhv,hcv⟩⟩
        ·exact absurd jq.o.2.ab9 hne
        obtain⟨C,hC⟩: ∃C,jv s.dw=C:=⟨_,rfl⟩
        have hC3:C.length<=3:=by rw[<-hC];unfold jv;rw[lX,List.length_range];exact jq.o.1.aU
        have HCS:Hid (∀r∈C,kL r.1/\kL r.2):=ae (by rw[<-hC];exact GX jq.o.2.ab9)
        rw[hC] at hcv
        have HCE:=ae hC
        obtain⟨hO,hCc,rfl⟩:=hhv.open
        obtain⟨cO,cC,rfl⟩:=hcv.open
        have aaz:=ae (ag (Tu.o.call ZC) hcv)
        clear ZC hhv hcv hC c9 f9 l9
        go_wp2_with fail
        go_loopw [149] (fun i wr=> ∃k:Nat,k<=C.length/\i= .int .i64 k/\XJ W3 (P6++(C.take k).flatMap (gX Bl)) wr/\aN 2 wr (.slice cO C.length cC) C.length (aG C)) (fun i _=>C.length-(intOf i).toNat)
        case atStart=>exact⟨0,bM _,rfl,by simpa using aaz.o.1,aaz.o.2⟩
        case round=>
         obtain⟨k,hk,rfl,hR,hL⟩:=hrel
         by_cases hlt:k<C.length
         ·obtain⟨lb,QV,rfl,hlb,d1,d2⟩:=bP.cell hL hlt
          obtain⟨x,hx⟩: ∃x,C[k]=x:=⟨_,rfl⟩
          rw[hx] at d1 d2
          have hsm:=HCS.o C[k] (df hlt)
          rw[hx] at hsm
          have htf:P6++(C.take (k+1)).flatMap (gX Bl)=(P6++(C.take k).flatMap (gX Bl))++gX Bl x:=by rw[uX _ hlt,hx,kZ]
          have hlen:(P6++(C.take (k+1)).flatMap (gX Bl)).length<=500000:=by
           have h1:=rU Bl (l:=C.take (k+1)) (fun r hr=>HCS.o r (nZ hr))
           have h2:(C.take (k+1)).length<=10:=by rw[gJ];omega
           rw[dh]
           have h3:(Bl:az).length+26<=40:=by decide
           have h4:=Nat.mul_le_mul h3 h2
           have h5:=hC3
           have h6:(P6).length<=2000:=(by omega)
           omega
          have hR':=hR.call (ak (aH _ _) (.cells #[iv x.1,iv x.2] 129 (0,0)))
          have HW:=ae (rY W3.heap.size W3.heap.size _ Bl x _ hR'.buf (mV hR'.lt) (by omega) (UF.o _ hR'.below) hsm.1 hsm.2 (by have h1:=hR.len;have h2:(Bl:az).length<=10:=(by decide);omega))
          have HX:=ae (ag hR' (ag hL (ag htf hlen)))
          clear hR hL htf hlen hR' hsm hx
          go_wp2_with fail
          refine HW.o.mono ?_
          rintro e W6 ⟨⟨v,rfl⟩,hbu,hwr⟩
          have Uk:=HX.o.1.wrote hbu hwr (by have:=HX.o.2.2.2;rwa [HX.o.2.2.1] at this)
          have hL6:=hwr.list (HX.o.2.1.alloc _) (AU C)
          have H6:=ae (ag Uk hL6)
          clear hbu hwr Uk hL6
          go_wp2_with fail
          go_roundw
          case rel=>exact⟨k+1,by omega,by go_num,by rw[HX.o.2.2.1];exact H6.o.1,H6.o.2⟩
          case measure=>simp[intOf];omega
         ·have hkl:k=C.length:=by omega
          subst hkl
          rw[List.take_length] at hR
          have xu:=ae hR
          clear hR hL
          obtain⟨P7,RF⟩: ∃P,P6++C.flatMap (gX Bl)=P:=⟨_,rfl⟩
          rw[RF] at xu
          have UE:Hid (KG ls=P7):=ae (by rw[L9.o,aeW.o,HCE.o,RF])
          clear RF
          go_wp2_with fail
          refine(Tryz.Builder_String_any_k W3.heap.size W3.heap.size P7 wr (Lib.IsBuilderF.of xu.o.buf.is) (mV xu.o.lt)).mono ?_
          rintro e W16 ⟨rfl,_,hb16,_⟩
          have ae5:=ae (H3.o.1.trans ((xu.o.below.trans hb16).mono H3.o.1.size))
          clear hb16
          go_wp2_with fail
          go_returns
          exact⟨ae5.o,by rw[UE.o,HQ.o];simp⟩
     ·have hLI:((L.length:Int)==0)=false:=by simp;exact fun h=>hL0 (by simp[h])
      have ho:FO s=[]:=by
       unfold FO
       rw[HLE.o,aj (fun h=>hL0 (by rw[h];rfl))]
      have HEQ:Hid (nS s=P4++Gp s++keepR s++(jv s.dw).flatMap (gX Bl)):=ae (by rw[aeY.o,ho,List.append_nil])
      clear ho hL0
      have abw:P4.length<=1300:=by omega
      obtain⟨W9,Lm⟩: ∃W,W=W8':=⟨_,rfl⟩
      rw[<-Lm] at Xw
      rw[<-Lm]
      have Xv:=Xw
      clear Lm
      obtain⟨c9,f9,l9⟩:=af (HC.o W9 Xv.o.below)
      have uf:=HST.o W9 Xv.o.below
      have HBD:=ae (jD.Hy s.heap vw vu vr vu s.heap.turns W9 uf.bW uf.Ih uf.PR uf.Ih)
      clear uf
      go_wp2_with fail
      refine HBD.o.mono ?_
      rintro e Td ⟨bv,he,hbv,zU⟩
      rw[jq.o.2.ask] at he
      subst he
      obtain⟨xg,hB1,hB2⟩:=Gn jq.o.1 jq.o.2
      have hhr:Gp s=gX Uc ((jD.jM s.heap s.heap.turns).getD 4 (0,0)):=rfl
      obtain⟨B,hB⟩: ∃B,jD.jM s.heap s.heap.turns=B:=⟨_,rfl⟩
      rw[hB] at hbv xg hB1 hB2 hhr
      obtain⟨bO,bC,rfl⟩:=hbv.open
      obtain⟨lb,QV,rfl,hlb,d1,d2⟩:=bP.cell hbv (k:=4) (by omega)
      have hg4:B.getD 4 (0,0)=B[4]:=wF (by omega)
      rw[hg4] at hB1 hB2 hhr
      generalize B[4]=x at*
      have Ho:=ae (Xv.o.call zU)
      have hl4:s.heap.last=4:=jq.o.1.heap.1
      have HHR:=ae hhr
      clear hbv zU hB hhr c9 f9 l9 hg4
      obtain⟨c9,f9,l9⟩:=af (HC.o Td Ho.o.below)
      rw[xg]
      have HW:=ae (fun W hE=>rY W3.heap.size W3.heap.size P4 Uc x W (Ho.o.call hE).buf (mV (Ho.o.call hE).lt) (by omega) (UF.o _ (Ho.o.call hE).below) hB1 hB2 (by have h2:(Uc:az).length<=10:=(by decide);omega))
      have hwl:=BL (word:=Uc) hB1 hB2
      clear hB1 hB2 xg
      go_wp2_with fail
      refine zg 15 [] none [] ?_
      simp only[zt]
      repeat ((first|refine zn ?_|refine zk ?_);simp only[zp])
      intro W hE hF
      have hbE:=hE.below
      clear hE hF
      go_wp2_with fail
      refine(HW.o W hbE).mono ?_
      rintro e W11 ⟨⟨v11,rfl⟩,hbu,hwr⟩
      obtain⟨P5,hP5⟩: ∃P,P4++gX Uc x=P:=⟨_,rfl⟩
      have hs5:P5.length<=1340:=by rw[<-hP5,dh];have:(Uc:az).length=4:=rfl;omega
      rw[hP5] at hbu
      have Tz:=ae ((Ho.o.call hbE).wrote hbu hwr (by omega))
      have Zw:nS s=P5++keepR s++(jv s.dw).flatMap (gX Bl):=by rw[HEQ.o,HHR.o,hP5]
      have aeX:=ae Zw
      clear hbu hwr hP5 Zw c9 f9 l9 hbE hwl d1 d2 hl4
      obtain⟨c9,f9,l9⟩:=af (HC.o W11 Tz.o.below)
      have uf:=HST.o W11 Tz.o.below
      have HKP:=ae (jD.Dc s.heap vw vu vr vu s.heap.turns W11 uf.bW uf.Ih uf.PR uf.Ih)
      have hkr:keepR s=Ub++Lib.itoa (jD.nV s.heap s.heap.turns)++[10]:=rfl
      have hks:=Dy s.heap s.heap.turns
      obtain⟨kq,hkq⟩: ∃k,jD.nV s.heap s.heap.turns=k:=⟨_,rfl⟩
      rw[hkq] at hkr hks
      have HKQ:=ae hkq
      clear uf hkq
      go_wp2_with fail
      refine HKP.o.mono ?_
      rintro e XI ⟨he,RD⟩
      rw[HKQ.o,jq.o.2.ask] at he
      subst he
      have aaA:=ae (Tz.o.call RD)
      have hil:=qJ hks
      have HIT:=ae (xU kq hks XI (UF.o _ aaA.o.below))
      obtain⟨s2,Ru⟩: ∃s,Lib.itoa kq=s:=⟨_,rfl⟩
      rw[Ru] at hil hkr
      have HS2:=ae Ru
      have HKR:=ae hkr
      have a1:=fun W=>qB (P:=Tryz.prog) (a:=Ub) (b:=s2) rfl (by have:(Ub:az).length=6:=rfl;omega) W
      have a2:=fun W=>qB (P:=Tryz.prog) (a:=Ub++s2) (b:=[10]) rfl (by rw[dh];have:(Ub:az).length=6:=rfl;have:([10]:az).length=1:=rfl;omega) W
      clear RD hks Ru hkr c9 f9 l9
      go_wp2_with fail
      refine HIT.o.mono ?_
      rintro e W13 ⟨rfl,Ll⟩
      rw[HS2.o]
      have Tv:=ae (aaA.o.call Ll)
      clear Ll
      go_wp2_with fail
      refine(uT W3.heap.size W3.heap.size P5 _ W13 Tv.o.buf (mV Tv.o.lt) (by simp;omega)).mono ?_
      rintro e Uw ⟨⟨v14,rfl⟩,hbu,hwr⟩
      obtain⟨P6,XE⟩: ∃P,P5++keepR s=P:=⟨_,rfl⟩
      have hs6:P6.length<=1000+400:=by
       rw[<-XE,HKR.o,dh,dh,dh]
       have:(Ub:az).length=6:=rfl
       have:([10]:az).length=1:=rfl
       omega
      have ZA:Buf W3.heap.size W3.heap.size P6 Uw:=by
       rw[<-XE,HKR.o]
       simpa using hbu
      have Tu:=ae (Tv.o.wrote ZA hwr (by omega))
      have Zv:nS s=P6++(jv s.dw).flatMap (gX Bl):=by rw[aeX.o,XE]
      have aeW:=ae Zv
      clear hbu ZA hwr XE Zv a1 a2
      obtain⟨c9,f9,l9⟩:=af (HC.o Uw Tu.o.below)
      have HCB:=ae (xR s.dw vh vk vs es Uw (HST.o Uw Tu.o.below).dw)
      go_wp2_with fail
      refine HCB.o.mono ?_
      rintro e Xk ⟨ZC,⟨hne,rfl⟩|⟨_,ajr,akE,rfl,hhv,hcv⟩⟩
      ·exact absurd jq.o.2.ab9 hne
      obtain⟨C,hC⟩: ∃C,jv s.dw=C:=⟨_,rfl⟩
      have hC3:C.length<=3:=by rw[<-hC];unfold jv;rw[lX,List.length_range];exact jq.o.1.aU
      have HCS:Hid (∀r∈C,kL r.1/\kL r.2):=ae (by rw[<-hC];exact GX jq.o.2.ab9)
      rw[hC] at hcv
      have HCE:=ae hC
      obtain⟨hO,hCc,rfl⟩:=hhv.open
      obtain⟨cO,cC,rfl⟩:=hcv.open
      have aaz:=ae (ag (Tu.o.call ZC) hcv)
      clear ZC hhv hcv hC c9 f9 l9
      go_wp2_with fail
      go_loopw [149] (fun i wr=> ∃k:Nat,k<=C.length/\i= .int .i64 k/\XJ W3 (P6++(C.take k).flatMap (gX Bl)) wr/\aN 2 wr (.slice cO C.length cC) C.length (aG C)) (fun i _=>C.length-(intOf i).toNat)
      case atStart=>exact⟨0,bM _,rfl,by simpa using aaz.o.1,aaz.o.2⟩
      case round=>
       obtain⟨k,hk,rfl,hR,hL⟩:=hrel
       by_cases hlt:k<C.length
       ·obtain⟨lb,QV,rfl,hlb,d1,d2⟩:=bP.cell hL hlt
        obtain⟨x,hx⟩: ∃x,C[k]=x:=⟨_,rfl⟩
        rw[hx] at d1 d2
        have hsm:=HCS.o C[k] (df hlt)
        rw[hx] at hsm
        have htf:P6++(C.take (k+1)).flatMap (gX Bl)=(P6++(C.take k).flatMap (gX Bl))++gX Bl x:=by rw[uX _ hlt,hx,kZ]
        have hlen:(P6++(C.take (k+1)).flatMap (gX Bl)).length<=500000:=by
         have h1:=rU Bl (l:=C.take (k+1)) (fun r hr=>HCS.o r (nZ hr))
         have h2:(C.take (k+1)).length<=10:=by rw[gJ];omega
         rw[dh]
         have h3:(Bl:az).length+26<=40:=by decide
         have h4:=Nat.mul_le_mul h3 h2
         have h5:=hC3
         have h6:(P6).length<=2000:=(by omega)
         omega
        have hR':=hR.call (ak (aH _ _) (.cells #[iv x.1,iv x.2] 129 (0,0)))
        have HW:=ae (rY W3.heap.size W3.heap.size _ Bl x _ hR'.buf (mV hR'.lt) (by omega) (UF.o _ hR'.below) hsm.1 hsm.2 (by have h1:=hR.len;have h2:(Bl:az).length<=10:=(by decide);omega))
        have HX:=ae (ag hR' (ag hL (ag htf hlen)))
        clear hR hL htf hlen hR' hsm hx
        go_wp2_with fail
        refine HW.o.mono ?_
        rintro e W6 ⟨⟨v,rfl⟩,hbu,hwr⟩
        have Uk:=HX.o.1.wrote hbu hwr (by have:=HX.o.2.2.2;rwa [HX.o.2.2.1] at this)
        have hL6:=hwr.list (HX.o.2.1.alloc _) (AU C)
        have H6:=ae (ag Uk hL6)
        clear hbu hwr Uk hL6
        go_wp2_with fail
        go_roundw
        case rel=>exact⟨k+1,by omega,by go_num,by rw[HX.o.2.2.1];exact H6.o.1,H6.o.2⟩
        case measure=>simp[intOf];omega
       ·have hkl:k=C.length:=by omega
        subst hkl
        rw[List.take_length] at hR
        have xu:=ae hR
        clear hR hL
        obtain⟨P7,RF⟩: ∃P,P6++C.flatMap (gX Bl)=P:=⟨_,rfl⟩
        rw[RF] at xu
        have UE:Hid (KG ls=P7):=ae (by rw[L9.o,aeW.o,HCE.o,RF])
        clear RF
        go_wp2_with fail
        refine(Tryz.Builder_String_any_k W3.heap.size W3.heap.size P7 wr (Lib.IsBuilderF.of xu.o.buf.is) (mV xu.o.lt)).mono ?_
        rintro e W16 ⟨rfl,_,hb16,_⟩
        have ae5:=ae (H3.o.1.trans ((xu.o.below.trans hb16).mono H3.o.1.size))
        clear hb16
        go_wp2_with fail
        go_returns
        exact⟨ae5.o,by rw[UE.o,HQ.o];simp⟩
def dgF:Nat->Nat->az
 |0,_=>[]
 |f+1,n=>if n<10 then[EU n] else dgF f (n/10)++[EU (n%10)]
theorem ZX: ∀(f n:Nat),n<f->Lib.decDigits n=dgF f n:=by
 intro f
 induction f with
 |zero=>intro n h;omega
 |succ f ih=>
  intro n h
  unfold dgF
  by_cases hn:n<10
  ·rw[mQ hn,aF hn]
  ·rw[yt hn,aj hn,ih (n/10) (by omega)]
def JF (n:Int):az:=if n<0 then 45::dgF (n.natAbs+1) n.natAbs else dgF (n.toNat+1) n.toNat
theorem AV (n:Int):Lib.itoa n=JF n:=by
 unfold Lib.itoa JF
 rw[ZX _ _ (Nat.lt_succ_self _),ZX _ _ (Nat.lt_succ_self _)]
def IZ (word:az) (r:dQ):az:=word++[32]++JF r.1++[46,46]++JF r.2++[10]
theorem XU (word:az):gX word=IZ word:=by
 funext r
 unfold gX IZ
 rw[AV,AV]
def spF (i:Int):az:=32::JF i
def KF (s:jJ):az:=
 (Bf s.led.field).flatMap (IZ Si)++lvW++(nz s.led).flatMap spF++[10]++(if nz s.led=[] then(Bv oI s.led (gm s.led)).flatMap (IZ PT) else[])
   ++IZ Uc ((jD.jM s.heap s.heap.turns).getD 4 (0,0))++(Ub++JF (jD.nV s.heap s.heap.turns)++[10])++(jv s.dw).flatMap (IZ Bl)
theorem adm:Yj=spF:=by
 funext i
 unfold Yj spF
 rw[AV]
theorem Qx (s:jJ):nS s=KF s:=by
 unfold nS KF FO Gp keepR
 simp only[XU,AV,adm]
def jP:List az:=[[114,111,119],
 [108,101,102,116,32,48,32,48],
 [116,97,108,108,121,32,48,32,48,32,50,32,50,32,51],
 [116,97,108,108,121,32,49,32,50,32,51,32,49,32,50],
 [98,111,120,32,50,48,32,50,50],
 [110,111,116,101,32,48,32,49,48,32,49,53],
 [116,117,114,110,32,51],
 [119,101,116,32,49,32,56,32,57],
 [105,114,111,110,32,49,32,52,52,32,48],
 [99,97,115,107,32,48,32,49,48],
 [104,101,97,112,32,54,48,32,54,51],
 [102,105,108,108,32,48,32,49,32,49,48],
 [116,114,121,32,48,32,53,49,32,53,50]]
def rD:List az:=[[119,97,115,104,32,49,32,52,32,53],
 [116,117,114,110,32,51],
 [114,97,116,101,32,48,53]]
def afC:az:=[100,111,110,101,32,50,46,46,51,10,100,111,110,101,32,49,46,46,50,10,108,101,97,118,101,10,111,119,101,100,32,53,46,46,50,48,10,111,119,101,100,32,48,46,46,49,53,10,104,101,97,116,32,51,55,46,46,51,55,10,107,101,101,112,115,32,49,10,99,97,115,107,32,53,49,46,46,53,49,10]
theorem UJ:(fK bH dY (jP++rD)).2=[0,0,0,0,0,0,0,0,0,0,0,0,0,2,6,4]:=by decide+kernel
theorem su:fH jP=0/\fH (jP++rD)=0:=by decide+kernel
theorem IX:Js jP=0/\Jt jP=[(5,20),(0,15)]:=by decide+kernel
theorem IW:I8 jP=0/\I9 jP=[0]:=by decide+kernel
theorem XR:KF (fK bH dY jP).1=afC:=by decide+kernel
theorem QX (ls:List az) (v:Value) (w:World) (hv:iU w v ls):Calls Tryz.prog 15 #[v] w (PV (iv (fH ls)) w):=by
 have hlen:=hv.len
 obtain⟨o,c,rfl⟩:=aN.open hv
 have HV:=ae hv
 clear hv
 by_cases h40:40<ls.length
 ·have aef:(40:Int)<ls.length:=by omega
  have HR:Hid (fH ls=3):=ae (by unfold fH;rw[aF (.inl h40)])
  go_enter Tryz.func15,Tryz.ntmps15
  go_wp2_with fail
  go_returns
  exact⟨by rw[HR.o];simp,aH _ _⟩
 ·have aef: ¬(40:Int)<ls.length:=by omega
  go_enter Tryz.func15,Tryz.ntmps15
  go_wp2_with fail
  go_loopw [3] (fun i wr=> ∃k:Nat,k<=ls.length/\i= .int .i64 k/\(∀j (h:j<ls.length),j<k->ls[j].length<=60)/\Below w.heap.size w wr) (fun i _=>ls.length-(intOf i).toNat)
  case atStart=>exact⟨0,bM _,rfl,fun j _ hj=>by omega,aH _ _⟩
  case round=>
   obtain⟨k,hk,rfl,hno,hB⟩:=hrel
   by_cases hlt:k<ls.length
   ·obtain⟨b,off,rfl,hb,hc0⟩:=iU.cell (aN.below HV.o hB (ai _)) hlt
    have HN:=ae hno
    have HB:=ae hB
    have HK:=ae (fun h=>hno k hlt h)
    obtain⟨x,hx⟩: ∃x,ls[k]=x:=⟨_,rfl⟩
    rw[hx] at hc0
    have hs:(gI x).size=x.length:=ng x
    have HX:=ae hx
    clear hno hB hx
    by_cases h60:x.length<=60
    ·have aee: ¬(60:Int)<x.length:=by omega
     go_wp2_with fail
     go_roundw
     case rel=>exact⟨k+1,by omega,by go_num,fun j h hj=>(by by_cases e:j=k;(subst e;rw[HX.o];exact h60);exact HN.o j h (by omega)),HB.o⟩
     case measure=>simp[intOf];omega
    ·have aee:(60:Int)<x.length:=by omega
     go_wp2_with fail
     go_returns
     refine⟨?_,HB.o⟩
     have:fH ls=3:=by
      unfold fH
      rw[aF (.inr (List.any_eq_true.2 ⟨x,by rw[<-HX.o];exact df _,by simp;omega⟩))]
     rw[this]
     simp
   ·have hkl:k=ls.length:=by omega
    have HN:=ae hno
    have HB:=ae hB
    clear hno hB
    go_wp2_with fail
    go_returns
    refine⟨?_,HB.o⟩
    have:fH ls=0:=by
     unfold fH
     rw[aj]
     simp only[not_or,Bool.not_eq_true]
     refine⟨h40,List.any_eq_false.2 fun x hx=>?_⟩
     obtain⟨j,hj,rfl⟩:=lY hx
     have:=HN.o j hj (by omega)
     simp;omega
    rw[this]
    simp
def MP (ls:List az):Bool:=decide (ls.length<=45)&&ls.all fun x=>decide (x.length<=80)
theorem Ak {ls:List az}:MP ls=true↔ls.length<=45/\ ∀x∈ls,x.length<=80:=by
 unfold MP
 rw[eF,eQ,jV]
 exact⟨fun h=>⟨h.1,fun x hx=>of_decide_eq_true (h.2 x hx)⟩,fun h=>⟨h.1,fun x hx=>decide_eq_true (h.2 x hx)⟩⟩
theorem aas (ls:List az) (v:Value) (w:World) (hv:iU w v ls):Calls Tryz.prog 8 #[v] w (PV (.bool (MP ls)) w):=by
 have hlen:=hv.len
 obtain⟨o,c,rfl⟩:=aN.open hv
 have HV:=ae hv
 clear hv
 obtain⟨q,hq⟩: ∃q,MP ls=q:=⟨_,rfl⟩
 rw[hq]
 have HQ:=ae hq
 clear hq
 go_enter Tryz.func8,Tryz.ntmps8
 go_wp2_with fail
 go_loopw [3] (fun i wr=> ∃k:Nat,k<=ls.length/\k<=46/\i= .int .i64 k/\(∀j (h:j<ls.length),j<k->ls[j].length<=80)/\Below w.heap.size w wr) (fun i _=>ls.length-(intOf i).toNat)
 case atStart=>exact⟨0,bM _,bM _,rfl,fun j _ hj=>by omega,aH _ _⟩
 case round=>
  obtain⟨k,hk,h46,rfl,hno,hB⟩:=hrel
  have HB:=ae hB
  have HN:=ae hno
  by_cases hlt:k<ls.length
  ·by_cases an9:k<46
   ·have agF:(k:Int)<46:=by omega
    obtain⟨b,off,rfl,hb,hc0⟩:=iU.cell (aN.below HV.o hB (ai _)) hlt
    obtain⟨x,hx⟩: ∃x,ls[k]=x:=⟨_,rfl⟩
    rw[hx] at hc0
    have hs:(gI x).size=x.length:=ng x
    have HX:=ae hx
    clear hno hB hx
    by_cases h60:x.length<=80
    ·have aee: ¬(80:Int)<x.length:=by omega
     go_wp2_with fail
     go_roundw
     case rel=>exact⟨k+1,by omega,by omega,by go_num,fun j h hj=>(by by_cases e:j=k;(subst e;rw[HX.o];exact h60);exact HN.o j h (by omega)),HB.o⟩
     case measure=>simp[intOf];omega
    ·have aee:(80:Int)<x.length:=by omega
     have hq0:q=false:=by
      rw[<-HQ.o,Bool.eq_false_iff]
      intro h
      exact h60 ((Ak.1 h).2 x (by rw[<-HX.o];exact df _))
     subst hq0
     go_wp2_with fail
     go_returns
     exact⟨by simp,HB.o⟩
   ·have agF: ¬(k:Int)<46:=by omega
    have hq0:q=false:=by
     rw[<-HQ.o,Bool.eq_false_iff]
     intro h
     have:=(Ak.1 h).1
     omega
    have h45: ¬(ls.length:Int)<=45:=by omega
    subst hq0
    clear hno hB
    go_wp2_with fail
    go_returns
    exact⟨by simp,HB.o⟩
  ·have hkl:k=ls.length:=by omega
   clear hno hB
   by_cases h45:ls.length<=45
   ·have akA:(ls.length:Int)<=45:=by omega
    have hq1:q=true:=by
     rw[<-HQ.o]
     refine Ak.2 ⟨h45,fun x hx=>?_⟩
     obtain⟨j,hj,rfl⟩:=lY hx
     exact HN.o j hj (by omega)
    subst hq1
    go_wp2_with fail
    go_returns
    exact⟨by simp,HB.o⟩
   ·have akA: ¬(ls.length:Int)<=45:=by omega
    have hq0:q=false:=by
     rw[<-HQ.o,Bool.eq_false_iff]
     intro h
     exact h45 (Ak.1 h).1
    subst hq0
    go_wp2_with fail
    go_returns
    exact⟨by simp,HB.o⟩
theorem Yd:iO Tryz.prog 22 9 (.string ⟨#[]⟩) 1 16:=⟨Tryz.underlying22,by kernel_rfl,rfl,by omega⟩
end Go.Proofs.YthllkbbbapgelaaGreatDoor.Bk
end
section
namespace Go.Proofs.YthllkbbbapgelaaGreatDoor.Bk
open Go.Lib Go.RowKit Go.RG Go.SL Go.Shelf jl Go.TB Go.Proofs.YthllkbbbapgelaaGreatDoor.zo
theorem Fj (ls:List az): ∀u∈cZ ls,u.oneCell'=true:=fun u hu=>by
 obtain⟨x,_,rfl⟩:=iZ.1 hu
 rfl
def PD (ls:List az) (w:World) (e:Ending) (w':World):Prop:= ∃o c,e= .returned (.slice o ls.length c)/\w'.ownsRow w.heap.size 9 1 (.slice o ls.length c) ls.length (cZ ls)/\Below w.heap.size w w'
theorem QW (ls:List az) (v:Value) (w:World) (hv:iU w v ls) (hl:ls.length*16<=140737488355328):Calls Tryz.prog 11 #[v] w (PD ls w):=by
 obtain⟨lo,lc,rfl⟩:=aN.open hv
 have HV:=ae hv
 clear hv
 go_enter Tryz.func11,Tryz.ntmps11
 go_wp2_with (at_builtin;go_loud (refine eU rfl _ _ Yd rfl w.heap.size (.slice (some ⟨w.heap.size,0,none⟩) 0 0) 0 [] rfl (iK (cs:= #[]) (n:=0) (ay _ _) rfl (ai _) (by decide)) (.slice lo ls.length lc) (ls).length (cZ (ls)) rfl (aN.alloc (HV.o) _) (Fj (ls)) (by omega) (by omega) (by simp) ?_))
 intro v' W2 hown hgr _
 (try rw[Nat.zero_add] at hown)
 (try rw[List.nil_append] at hown)
 obtain⟨o2,c2,rfl⟩:=aW hown
 have hB2:Below w.heap.size w W2:=Below.grown (ak (aH _ _) _) hgr (by simp) (fun g e=>by simp[Value.ownBlock] at e;omega)
 have HC2:=ae (ag hB2 hown)
 have hz2:=hB2.size
 clear hown hgr hB2
 go_wp2_with fail
 go_returns
 exact⟨_,_,rfl,HC2.o.2,HC2.o.1⟩
theorem MC (ls:List az) (v:Value) (w:World) (hv:iU w v ls) (hl:ls.length<=1000):Calls Tryz.prog 19 #[v] w (PD (jP++ls) w):=by
 obtain⟨lo,lc,rfl⟩:=aN.open hv
 have HV:=ae hv
 clear hv
 have agy:jP.length=13:=rfl
 have HYL:Hid ((jP++ls).length=13+ls.length):=ae (by rw[dh,agy])
 have HYC:Hid (cZ jP++cZ ls=cZ (jP++ls)):=ae (by simp[cZ])
 clear agy
 go_enter Tryz.func19,Tryz.ntmps19
 go_wp2_with (at_builtin;go_loud (refine eU rfl _ _ Yd rfl w.heap.size (.slice (some ⟨w.heap.size,0,none⟩) 13 13) 13 (cZ jP) rfl (iK (cs:=(cZ jP).toArray) (n:=13) (ay _ _) rfl (ai _) (by decide)) (.slice lo ls.length lc) ls.length (cZ ls) rfl (aN.alloc HV.o _) (Fj ls) (by omega) (by omega) (by simp) ?_))
 intro v' W2 hown hgr _
 rw[HYC.o] at hown
 obtain⟨o2,c2,rfl⟩:=aW hown
 have hB2:Below w.heap.size w W2:=Below.grown (ak (aH _ _) _) hgr (by simp) (fun g e=>by simp[Value.ownBlock] at e;omega)
 have HC2:=ae (ag hB2 hown)
 clear hown hgr hB2
 go_wp2_with fail
 go_returns
 unfold PD
 rw[HYL.o]
 exact⟨_,_,rfl,HC2.o.2,HC2.o.1⟩
end Go.Proofs.YthllkbbbapgelaaGreatDoor.Bk
end
section
namespace Go.Proofs.YthllkbbbapgelaaGreatDoor.Bk
open Go.Lib Go.RowKit Go.RG Go.SL Go.Shelf jl Go.TB Go.Proofs.YthllkbbbapgelaaGreatDoor.zo
attribute [local go_sem] Oper.semAt_some
structure Xo (B:Nat) (o:Option Addr) (c:Nat) (b:az) (k:Nat) (Ms:List Nat) (W:World):Prop where
 lines: ∃v,W.heap[B]? =some (.cells #[v] 22 (0,0))/\W.ownsRow (B+5) 9 1 v k (cZ ((dL 40 0 b).take k))/\ ∀g,v.ownBlock=some g->g∉Ms/\g<W.heap.size
 bytes:W.heap[B+1]? =some (.cells #[.int .i64 (eY ((dL 40 0 b).take k):Nat)] 3 (0,0))
 box:W.heap[B+2]? =some (.cells #[.slice o b.length c] 25 (0,0))
theorem Xo.kept {B:Nat} {o:Option Addr} {c:Nat} {b:az} {k:Nat} {Ms Ms':List Nat} {W W':World} (h:Xo B o c b k Ms W) (hs:W.heap.size<=W'.heap.size) (hk: ∀j,B<=j->j<B+3->W'.heap[j]? =W.heap[j]?)
 (ho: ∀g,B+5<=g->g<W.heap.size->g∉Ms->W'.heap[g]? =W.heap[g]?) (hM: ∀m∈Ms',m∈Ms∨(W.heap.size<=m/\m<W'.heap.size)):Xo B o c b k Ms' W':=by
 obtain⟨v,h1,h2,h3⟩:=h.lines
 refine⟨⟨v,(hk _ (by omega) (by omega)).trans h1,_root_.Go.Proofs.YthllkbbbapgelaaGreatDoor.dm h2 fun g hg=>ho g (bD h2 g hg).1 (bD h2 g hg).2 (h3 g hg).1,fun g hg=>⟨fun hm=>?_,by have:=(h3 g hg).2;omega⟩⟩,
  (hk _ (by omega) (by omega)).trans h.bytes,(hk _ (by omega) (by omega)).trans h.box⟩
 rcases hM g hm with h4|h4
 ·exact(h3 g hg).1 h4
 ·have:=(h3 g hg).2;omega
def aat (b:az) (w:World) (e:Ending) (W:World):Prop:=
 Below w.heap.size w W/\ ∃v,e= .returned (.tuple #[v,.int .i64 (eY (dL 40 0 b):Nat)])/\W.ownsRow w.heap.size 9 1 v (dL 40 0 b).length (cZ (dL 40 0 b))
theorem Eh (b:az) (v:Value) (w:World) (hv:aN 1 w v b.length (Lib.byteCells b)) (hb:b.length<=1000000000):Calls Tryz.prog 12 #[v] w (aat b w):=by
 obtain⟨o,c,rfl⟩:=aN.open hv
 have HV:=ae (fun W (hb:Below w.heap.size w W)=>hv.below hb (ai _))
 clear hv
 refine(callsIn_wide (n:=0)).1 ?_
 refine callsIn_of_wp_marks Tryz.func12 rfl trivial ?_
 simp only[Tryz.ntmps12,List.size_toArray,List.length_cons,List.length_nil,Nat.reduceAdd,Nat.reduceSub,Array.replicate_succ,Array.replicate_zero,kG,kH,List.nil_append,List.cons_append]
 gi_wp2_with fail
 refine(callsIn_wide.2 (Nj o b.length c _)).mono ?_
 rintro e w1 ⟨rfl,rfl⟩
 gi_wp2_with fail
 obtain⟨B,mP⟩: ∃B,w.heap.size=B:=⟨_,rfl⟩
 obtain⟨w3,hw3⟩: ∃w3,((w.alloc (.cells #[.slice none 0 0] 22)).alloc (.cells #[.int .i64 0] 3)).alloc (.cells #[.slice o b.length c] 25)=w3:=⟨_,rfl⟩
 rw[hw3,mP]
 have hsz3:w3.heap.size=B+3:=by rw[<-hw3];simp;omega
 have HB3:Hid (Below w.heap.size w w3):=ae (by rw[<-hw3];exact zl)
 have HA3:Hid (Xo B o c b 0 [] w3):=ae (by
  rw[<-hw3, <-mP]
  refine⟨⟨.slice none 0 0,?_,⟨rfl,.inl ⟨rfl,rfl⟩⟩,fun g hg=>by cases hg⟩,?_,?_⟩
  ·exact(aV _ _ _ (by simp;omega)).trans ((aV _ _ _ (by simp)).trans (ay _ _))
  ·exact(aV _ _ _ (by simp)).trans (dU _ _ _)
  ·exact iw _ _ _ _)
 clear hw3
 have D8: ∀x,x∈[B,B+1,B+2,B+3,B+4]↔(B<=x/\x<B+5):=fun x=>by simp;omega
 obtain⟨Os,Gv⟩: ∃Os,[B,B+1,B+2,B+3,B+4]=Os:=⟨_,rfl⟩
 rw[Gv] at D8
 clear Gv
 refine MH (Nh b hb (B+2) o c) rfl (enters_of Tryz.func60 (by kernel_rfl) rfl) (by
  intro Ms x v W h
  rw[h]
  rfl) (by simp)
  (fun Ms k W=>Hu w Os Ms W/\Xo B o c b k Ms W)
  (fun _ _ _=>False)
  ?hInv ?pF ?hI ?hIx ?IA ?tH ?h0
  (fun a Ms k W1 a₁ W=> ∃(l:az) (s:Nat),(vg b)[k]? =some (l,s)/\a₁={tmps:=(((a.tmps.setIfInBounds 8 (.string (gI l))).setIfInBounds 9 (.int .i64 (s:Int))).setIfInBounds 4 (.string (gI l))).setIfInBounds 5 (.int .i64 (s:Int)),defers:=[]}/\
    (Hu w Os Ms W/\Xo B o c b k Ms W)/\(∀m∈Ms,m∉([]:List Nat)->m<W1.heap.size->W.heap[m]? =W1.heap[m]?)/\W1.heap.size<=W.heap.size)
  ?Lr ?hassign ?hbody ?hdone ?hstop
 case hInv=>
  rintro Ms k W ⟨hF,hP⟩
  exact⟨hP.box,HV.o W hF.ext⟩
 case pF=>rintro cd Ms W h;exact h.elim
 case hI=>
  rintro Ms Ms' k Wa Wb ⟨hF,hP⟩ hE hMs _
  exact⟨(hF.iQ hE hMs).1,hP.kept hE.size (fun x h1 h2=>(hF.iQ hE hMs).2 x ((D8 x).2 (by omega))) (fun g h1 h2 h3=>hE.block g h2 h3) hMs⟩
 case hIx=>rintro cd Ms Ms' Wa Wb h;exact h.elim
 case IA=>
  rintro Ms k W r ob ⟨hF,hP⟩ hr
  exact⟨hF.put ob (by omega),hP.kept (by simp) (fun x h1 h2=>World.putObj_heap_other (by omega)) (fun g h1 h2 h3=>World.putObj_heap_other (by omega)) (fun m hm=> .inl hm)⟩
 case tH=>rintro cd Ms W r ob h;exact h.elim
 case h0=>
  intro o1 o2
  refine⟨⟨ak (ak HB3.o _) _,by simp,by simp,fun x hx=>⟨by simp,by have:=(D8 x).1 hx;simp;omega⟩⟩,?_⟩
  exact HA3.o.kept (by simp;omega) (fun x h1 h2=>(aV _ _ _ (by simp;omega)).trans (aV _ _ _ (by omega))) (fun g h1 h2 h3=>by omega) (fun m hm=> .inl hm)
 case Lr=>
  rintro Ms k W1 a₁ W obj ⟨l,s,hx,ha,⟨hF,hP⟩,hk,hs⟩
  have hap:=(hF.apart (B+4) ((D8 _).2 (by omega))).1
  refine⟨l,s,hx,ha,⟨hF.put obj (by omega),hP.kept (by simp) (fun x h1 h2=>World.putObj_heap_other (by omega)) (fun g h1 h2 h3=>World.putObj_heap_other (by omega)) (fun m hm=> .inl hm)⟩,
   fun m hm h0 hml=>(World.putObj_heap_other (fun e=>hap (by rw[show B+4=m by omega];exact hm))).trans (hk m hm h0 hml),by simpa using hs⟩
 case hassign=>
  rintro Ms k v W hk ⟨hF,hP⟩ hv hlt
  have hxk:(vg b)[k]? =some (vg b)[k]:=dn hk
  generalize (vg b)[k]=x at*
  obtain⟨l,s⟩:=x
  obtain rfl:v= #[.string (gI l),.int .i64 (s:Int)]:=hv
  gi_wp2
  exact⟨⟨l,s,hxk,rfl,⟨hF,hP⟩,fun _ _ _ _=>trivial,ai _⟩,trivial,trivial⟩
 case hbody=>
  rintro Ms k W1 a₁ W busy hk ⟨l,s,hx,rfl,⟨hF,hP⟩,hkeep,hsz⟩ hrec hD
  simp only[qY,List.set_cons_succ,List.set_cons_zero]
  have hkl:k<(dL 40 0 b).length:=by rw[ve] at hk;exact hk
  have aoa:=Ar 40 0 b
  rw[dn hk,Jk hk,Option.some.injEq,Prod.mk.injEq] at hx
  obtain⟨rfl,rfl⟩:=hx
  have hls:(dL 40 0 b).take k++[(dL 40 0 b).getD k []]=(dL 40 0 b).take (k+1):=by
   rw[iC hkl,gW,dn hkl,Option.getD_some]
  obtain⟨l,hl⟩: ∃l,(dL 40 0 b).getD k []=l:=⟨_,rfl⟩
  obtain⟨s,hs⟩: ∃s,eY ((dL 40 0 b).take (k+1))=s:=⟨_,rfl⟩
  rw[hl] at hls⊢
  rw[hs]
  obtain⟨v,hv1,hv2,hv3⟩:=hP.lines
  obtain⟨vo,vc,rfl⟩:=aW hv2
  have hap: ∀x∈Os,x∉Ms/\x<W.heap.size:=hF.apart
  have hin: ∀x,B<=x->x<B+5->x∈Os:=fun x h1 h2=>(D8 x).2 ⟨h1,h2⟩
  have hb5:B+5<=W.heap.size:=by have:=(hap (B+4) (hin _ (by omega) (by omega))).2;omega
  obtain⟨c0,f0,l0⟩:=af hv1
  obtain⟨c1,f1,l1⟩:=af hP.bytes
  have HOWN:=ae (aC (Ms:=[]) hv2 (Ext.aA (ak (aH W.heap.size W) (.cells #[.string (gI l)] 9))) (by simp))
  have HF:=ae hF
  have HP:=ae hP
  have HV3:=ae (ag hv1 (ag hv2 hv3))
  have HK:=ae (ag hkeep (ag hrec hD))
  have EY:=ae (ag hls hs)
  clear hF hP hv1 hv2 hv3 hkeep hrec hD hls hs hl
  gi_wp2_with (gi_at_builtin;go_loud (refine nP (fun _=>trivial) rfl qN rfl _ _ Yd rfl (B+5) (.slice vo k vc) k (cZ ((dL 40 0 b).take k)) rfl HOWN.o (.slice (some ⟨W.heap.size,0,none⟩) 1 1) 1 (cZ [l]) rfl (aN.dD 1 1 (ay _ _) rfl (by decide)) (Fj [l]) (by omega) (by omega) (by simp;omega) ?_))
  intro v' W5 hown hgr hob
  obtain⟨o5,q5,rfl⟩:=aW hown
  have hown':W5.ownsRow (B+5) 9 1 (.slice o5 (k+1) q5) (k+1) (cZ ((dL 40 0 b).take (k+1))):=by
   rw[<-EY.o.1]
   simpa [cZ] using hown
  have hBW:Below (B+5) W W5:=Below.grown ((aH (B+5) W).alloc hb5 _) hgr (by simp;omega) (fun g e=>(bD HOWN.o g e).1)
  have hz5:=hgr.size
  simp only[bu] at hz5
  have hms: ∀m∈Ms,m<W.heap.size->W5.heap[m]? =W.heap[m]? :=fun m hm hml=>
   (hgr.block m (by simp;omega) (fun e=>(HV3.o.2.2 m e.symm).1 hm)).trans (aV _ _ _ (by simpa using hml))
  have hnew: ∀g,(Value.slice o5 (k+1) q5).ownBlock=some g->g∉Ms/\g<W5.heap.size:=fun g hg=>by
   refine⟨fun hm=>?_,(bD hown' g hg).2⟩
   rcases hob with h|h
   ·exact(HV3.o.2.2 g (h▸hg)).1 hm
   ·rw[hg] at h
    have:=HF.o.bnd g hm
    injection h with h
    omega
  clear c0 f0 l0 c1 f1 l1
  obtain⟨c0,f0,l0⟩:=af ((hBW.block B (by omega)).trans HV3.o.1)
  obtain⟨c1,f1,l1⟩:=af ((hBW.block (B+1) (by omega)).trans HP.o.bytes)
  have HN:=ae (ag hown' (ag hBW (ag hms hnew)))
  have aec:=hBW
  clear hown hgr hob hown' hBW hms hnew
  have hk0:=(aec.block B (by omega)).trans HV3.o.1
  have hk1:=(aec.block (B+1) (by omega)).trans HP.o.bytes
  have HKK:=ae (ag hk0 hk1)
  clear aec hk0 hk1
  gi_wp2_with fail
  obtain⟨W6,Cm⟩: ∃W6,(W5.setCell {block:=B,off:=0} (Value.slice o5 (k+1) q5)).setCell {block:=B+1,off:=0} (.int .i64 (s:Int))=W6:=⟨_,rfl⟩
  rw[Cm]
  have ho: ∀x,x≠B->x≠B+1->W6.heap[x]? =W5.heap[x]? :=fun x h1 h2=>by
   rw[<-Cm]
   exact(heap_setCell_other _ ⟨B+1,0,none⟩ x _ h2).trans (heap_setCell_other _ ⟨B,0,none⟩ x _ h1)
  have IB:Below B W W6:=by
   rw[<-Cm]
   exact(((HN.o.2.1.mono (Nat.le_add_right B 5)).setCell (p:=⟨B,0,none⟩) (ai B) _).setCell (p:=⟨B+1,0,none⟩) (by simp) _)
  have hz6:W6.heap.size=W5.heap.size:=by rw[<-Cm];simp
  have h0':W6.heap[B]? =some (.cells #[.slice o5 (k+1) q5] 22 (0,0)):=by
   rw[<-Cm]
   exact(heap_setCell_other _ ⟨B+1,0,none⟩ B _ (by simp)).trans (heap_setCell_same W5 B 0 _ _ _ HKK.o.1)
  have h1':W6.heap[B+1]? =some (.cells #[.int .i64 (s:Int)] 3 (0,0)):=by
   rw[<-Cm]
   exact heap_setCell_same _ (B+1) 0 _ _ _ ((heap_setCell_other _ ⟨B,0,none⟩ (B+1) _ (by simp)).trans HKK.o.2)
  have hzB:=HN.o.2.1.size
  refine⟨⟨?_,?_,fun m hm h0 hml=>?_,by omega⟩,HF.o.own (HF.o.ext.trans (by rw[mP];exact IB)) (by omega),⟨⟨_,h0',?_,fun g hg=>⟨(HN.o.2.2.2 g hg).1,by have:=(HN.o.2.2.2 g hg).2;omega⟩⟩,?_,?_⟩⟩
  ·rw[hsz3]
   exact(ho _ (by omega) (by omega)).trans ((HN.o.2.1.block _ (by omega)).trans (hsz3▸HK.o.2.1))
  ·rw[hsz3]
   exact(ho _ (by omega) (by omega)).trans ((HN.o.2.1.block _ (by omega)).trans (hsz3▸HK.o.2.2))
  ·have n1:m≠B:=fun e=>(hap B (hin _ (by omega) (by omega))).1 (e▸hm)
   have n2:m≠B+1:=fun e=>(hap (B+1) (hin _ (by omega) (by omega))).1 (e▸hm)
   exact(ho m n1 n2).trans ((HN.o.2.2.1 m hm (HF.o.bnd m hm)).trans (HK.o.1 m hm h0 hml))
  ·exact _root_.Go.Proofs.YthllkbbbapgelaaGreatDoor.dm HN.o.1 fun g hg=>by
    have:=(bD HN.o.1 g hg).1
    exact ho g (by omega) (by omega)
  ·rw[h1',EY.o.2]
  ·exact(ho _ (by omega) (by omega)).trans ((HN.o.2.1.block _ (by omega)).trans HP.o.box)
 case hdone=>
  rintro Ms W ⟨hF,hP⟩ hD hlt
  rw[ve] at hP
  obtain⟨v,hv1,hv2,hv3⟩:=hP.lines
  rw[List.take_length] at hv2
  have hb1:=hP.bytes
  rw[List.take_length] at hb1
  obtain⟨vo,vc,rfl⟩:=aW hv2
  obtain⟨c0,f0,l0⟩:=af hv1
  obtain⟨c1,f1,l1⟩:=af hb1
  have HX:=ae (ag hF (ag hv1 (ag hb1 hv2)))
  have TK:=ae hD
  clear hF hP hv1 hb1 hv2 hv3
  gi_wp2_with fail
  gi_region
  obtain⟨W7,yV⟩: ∃W7,((W.setCell {block:=B,off:=0} (Value.slice vo (dL 40 0 b).length vc)).setCell {block:=B+1,off:=0} (.int .i64 (eY (dL 40 0 b):Nat))).drew=W7:=⟨_,rfl⟩
  rw[yV]
  have ho: ∀x,x≠B->x≠B+1->W7.heap[x]? =W.heap[x]? :=fun x h1 h2=>by
   rw[<-yV]
   exact(heap_setCell_other _ ⟨B+1,0,none⟩ x _ h2).trans (heap_setCell_other _ ⟨B,0,none⟩ x _ h1)
  have Ib:Below B W W7:=by
   rw[<-yV]
   exact Below.drew (((aH B W).setCell (p:=⟨B,0,none⟩) (ai B) _).setCell (p:=⟨B+1,0,none⟩) (by simp) _)
  have hz7:W7.heap.size=W.heap.size:=by rw[<-yV];simp
  have h0':W7.heap[B]? =some (.cells #[.slice vo (dL 40 0 b).length vc] 22 (0,0)):=by
   rw[<-yV]
   exact(heap_setCell_other _ ⟨B+1,0,none⟩ B _ (by simp)).trans (heap_setCell_same W B 0 _ _ _ HX.o.2.1)
  have h1':W7.heap[B+1]? =some (.cells #[.int .i64 (eY (dL 40 0 b):Nat)] 3 (0,0)):=by
   rw[<-yV]
   exact heap_setCell_same _ (B+1) 0 _ _ _ ((heap_setCell_other _ ⟨B,0,none⟩ (B+1) _ (by simp)).trans HX.o.2.2.1)
  have hD7:W7.heap[w3.heap.size]? =some (.deferred (some [])):=(ho _ (by omega) (by omega)).trans TK.o
  have acJ:W7.ownsRow (B+5) 9 1 (.slice vo (dL 40 0 b).length vc) (dL 40 0 b).length (cZ (dL 40 0 b)):=_root_.Go.Proofs.YthllkbbbapgelaaGreatDoor.dm HX.o.2.2.2 fun g hg=>by
   have:=(bD HX.o.2.2.2 g hg).1
   exact ho g (by omega) (by omega)
  have yX:Below w.heap.size w W7:=HX.o.1.ext.trans (by rw[mP];exact Ib)
  have HY:=ae (ag acJ (ag yX hz7))
  clear c0 f0 l0 c1 f1 l1
  have e0:=(World.putObj_heap_other (w:=W7) (o:= .deferred none) (show B≠w3.heap.size by omega)).trans h0'
  have e1:=(World.putObj_heap_other (w:=W7) (o:= .deferred none) (show B+1≠w3.heap.size by omega)).trans h1'
  obtain⟨c0,f0,l0⟩:=af e0
  obtain⟨c1,f1,l1⟩:=af e1
  clear yV ho Ib h0' h1' acJ yX e0 e1
  gi_wp2_with fail
  refine⟨by simp,.inl ⟨_,_,rfl,run_takeDeferred hD7,?_⟩⟩
  refine⟨.tuple #[.slice vo (dL 40 0 b).length vc,.int .i64 (eY (dL 40 0 b):Nat)],by simp[results,Tryz.results12,go_sem,c0,c1],?_,_,rfl,?_⟩
  ·have hF7:Hu w [] [] W7:=⟨HY.o.2.1,by simp,by simp,by simp⟩
   exact(hF7.put (Obj.deferred none) (r:=w3.heap.size) (by omega)).ext
  ·exact cu (_root_.Go.Proofs.YthllkbbbapgelaaGreatDoor.dm HY.o.1 fun g hg=>World.putObj_heap_other (by have:=(bD HY.o.1 g hg).1;omega)) (by omega)
 case hstop=>rintro cd Ms W h;exact h.elim
end Go.Proofs.YthllkbbbapgelaaGreatDoor.Bk
end
section
namespace Go.Proofs.YthllkbbbapgelaaGreatDoor.Bk
open Go.Lib Go.RowKit Go.RG Go.SL Go.Shelf jl Go.TB Go.Proofs.YthllkbbbapgelaaGreatDoor.zo
theorem yC:(∀l∈jP,l.length<=1000000)/\ ∀l∈jP++rD,l.length<=1000000:=by decide+kernel
theorem MB:KG jP=afC:=by
 unfold KG
 rw[aF su.1,Qx]
 unfold iV
 rw[aF su.1]
 exact XR
theorem PZ:xM (jP++rD)=[0,0,0,0,0,0,0,0,0,0,0,0,0,2,6,4]:=by
 unfold xM
 rw[aF su.2]
 exact UJ
theorem aap:fH [[97]]=0/\wV [[97]]=[48,49,58,97,58,48,50,50,51,10]:=by decide+kernel
theorem Po (w:World) (hE:Env w):Calls Tryz.prog 9 #[] w (PV (.bool true) w):=by
 have HE:Hid (∀W,Below w.heap.size w W->Env W):=ae (fun W hb=>hE.below hb (ai _))
 have HY:Hid (∀W,Calls Tryz.prog 19 #[.slice none 0 0] W (PD jP W)):=ae (fun W=>by have h:=MC [] (.slice none 0 0) W (aN.nil _ _) (by simp);rw[List.append_nil] at h;exact h)
 clear hE
 go_enter Tryz.func9,Tryz.ntmps9
 go_wp2_with fail
 refine(HY.o w).mono ?_
 rintro e W1 ⟨o1,c1,rfl,ho1,hb1⟩
 have HB1:=ae hb1
 have HO:=ae (WW _ jP W1 (aN.dS ho1) (HE.o W1 hb1) yC.1)
 clear hb1 ho1
 go_wp2_with fail
 refine HO.o.mono ?_
 rintro e W2 ⟨hb2,u2,rfl,hu2⟩
 rw[IX.1]
 rw[IX.2] at hu2
 obtain⟨uo,uc,rfl⟩:=aN.open hu2
 have HB2:=ae (bn HB1.o hb2)
 have HU2:=ae hu2
 clear hb2 hu2 HO HB1
 simp only[List.length_cons,List.length_nil,Nat.reduceAdd]
 go_wp2_with fail
 refine(HY.o W2).mono ?_
 rintro e W3 ⟨o3,c3,rfl,ho3,hb3⟩
 have HB3:=ae (bn HB2.o hb3)
 have HU3:=ae (HU2.o.below hb3 (ai _))
 have HT:=ae (IM _ jP W3 (aN.dS ho3) (HE.o W3 HB3.o) yC.1)
 clear hb3 ho3 HB2 HU2
 go_wp2_with fail
 refine HT.o.mono ?_
 rintro e W4 ⟨hb4,u4,rfl,hu4⟩
 rw[IW.1]
 rw[IW.2] at hu4
 obtain⟨vo,vc,rfl⟩:=aN.open hu4
 have HB4:=ae (bn HB3.o hb4)
 have HU4:=ae (HU3.o.below hb4 (ai _))
 have HV4:=ae hu4
 clear hb4 hu4 HT HB3 HU3
 simp only[List.length_cons,List.length_nil,Nat.reduceAdd]
 go_wp2_with fail
 refine(HY.o W4).mono ?_
 rintro e W5 ⟨o5,c5,rfl,ho5,hb5⟩
 have pV:=ae (bn HB4.o hb5)
 have HU5:=ae (HU4.o.below hb5 (ai _))
 have HV5:=ae (HV4.o.below hb5 (ai _))
 have HR:=ae (Ti _ jP W5 (aN.dS ho5) (HE.o W5 pV.o) yC.1)
 clear hb5 ho5 HB4 HU4 HV4
 go_wp2_with fail
 refine HR.o.mono ?_
 rintro e W6 ⟨hb6,rfl⟩
 rw[MB,su.1]
 have qG:=ae (bn pV.o hb6)
 have HU6:=ae (HU5.o.below hb6 (ai _))
 have HV6:=ae (HV5.o.below hb6 (ai _))
 clear hb6 HR pV HU5 HV5
 have HW:Hid (∀W,W=W6.alloc (.cells #[.string ⟨#[97]⟩] 9)->Calls Tryz.prog 10 #[.slice (some ⟨W6.heap.size,0,none⟩) 1 1] W (Uy (fH [[97]]) [[97]] W)):=ae (fun W hW=>JY [[97]] _ W (by
  have hk:W.heap[W6.heap.size]? =some (.cells (cZ [[97]]).toArray 9 (0,0)):=by rw[hW];exact ay _ _
  exact aN.dD 1 1 hk rfl (by decide)) (by decide))
 go_wp2_with fail
 refine(HW.o _ rfl).mono ?_
 rintro e W7 ⟨hb7,⟨hq,_⟩|⟨_,v7,rfl,ho7⟩⟩
 ·exact absurd aap.1 hq
 rw[aap.2] at ho7
 obtain⟨wo,wc,rfl⟩:=aW ho7
 have Rz:=bn (ak (aH W6.heap.size W6) (.cells #[.string ⟨#[97]⟩] 9)) hb7
 have zB:=ae (bn qG.o Rz)
 have HU7:=ae (HU6.o.below Rz (ai _))
 have HV7:=ae (HV6.o.below Rz (ai _))
 have HW7:=ae (aN.dS ho7)
 clear hb7 ho7 Rz HW qG HU6 HV6
 simp only[List.length_cons,List.length_nil,Nat.reduceAdd]
 have HM:Hid (∀W,W=W7.alloc (.cells (cZ rD).toArray 9)->Calls Tryz.prog 19 #[.slice (some ⟨W7.heap.size,0,none⟩) 3 3] W (PD (jP++rD) W)):=ae (fun W hW=>MC rD _ W (by
  have hk:W.heap[W7.heap.size]? =some (.cells (cZ rD).toArray 9 (0,0)):=by rw[hW];exact ay _ _
  exact aN.dD 1 3 hk rfl (by decide)) (by decide))
 go_wp2_with fail
 refine(HM.o _ rfl).mono ?_
 rintro e W8 ⟨o8,c8,rfl,qE,hb8⟩
 have ZB:=bn (ak (aH W7.heap.size W7) (.cells (cZ rD).toArray 9)) hb8
 have pU:=ae (bn zB.o ZB)
 have HU8:=ae (HU7.o.below ZB (ai _))
 have Ic:=ae (HV7.o.below ZB (ai _))
 have HW8:=ae (HW7.o.below ZB (ai _))
 have HL8:=ae (aN.dS qE)
 clear hb8 qE ZB HM zB HU7 HV7 HW7
 go_wp2_with fail
 refine(BD (.slice o8 (jP++rD).length c8) (jP++rD) W8 (HL8.o) (HE.o W8 pU.o) (yC.2) [] (by simp)).mono ?_
 rintro e W2a ⟨hb2,Va,esa,cv,he,hX,hC⟩
 subst he
 obtain⟨coa,cca,rfl⟩:=aW hC
 have hs2:=hb2.size
 have hS2:=hX W2a (Ext.refl _ _)
 rename_i hK
 refine hK _ _ ?_
 refine aP rfl _ (by go_simp;first|rfl|exact⟨rfl,rfl⟩) ?_
 simp only[zp]
 refine aP rfl _ (by go_simp;first|rfl|exact⟨rfl,rfl⟩) ?_
 simp only[zp]
 refine aP rfl _ (by go_simp;first|rfl|exact⟨rfl,rfl⟩) ?_
 simp only[zp]
 refine aP rfl _ (by go_simp;first|rfl|exact⟨rfl,rfl⟩) ?_
 simp only[zp]
 obtain⟨ga,hg⟩: ∃g,g=W2a.heap.size:=⟨_,rfl⟩
 refine aP rfl (w':=W2a.alloc (.cells fQ 62 (0,0))) (.pointer (some ⟨ga,0,none⟩)) (by rw[hg];go_simp;try rfl) ?_
 simp only[zp]
 have hz2:(W2a.alloc (.cells fQ 62 (0,0))).heap[ga]? =some (.cells fQ 62 (0,0)):=by rw[hg];exact ay _ _
 refine wpList_store_row rfl _ _ _ rfl ga (dR (iV (jP++rD)) Va) (by as_aux_lemma=>kernel_rfl) (by as_aux_lemma=>kernel_rfl) _ fQ hz2 (by kernel_rfl) (by as_aux_lemma=>kernel_rfl) (by rw[oz];exact fun u hu=>jd hS2 u (pK.2 hu)) ?_
 simp only[zp]
 refine kM fun W3a hW3=>?_
 obtain⟨BA,nX⟩: ∃BA,BA=W2a.alloc (.cells fQ 62 (0,0)):=⟨_,rfl⟩
 rw[<-nX] at hW3 hz2
 have xZ:Ext [ga] BA W3a:=by rw[hW3];exact gB
 have hs3:=xZ.size
 have hs2':BA.heap.size=ga+1:=by rw[nX,hg];simp
 have qL:Below W2a.heap.size W2a W3a:=jA (by rw[nX];exact ak (aH _ _) _) xZ (by omega)
 have agJ:W3a.heap[ga]? =some (.cells (dR (iV (jP++rD)) Va) 62 (0,0)):=by rw[hW3];exact setRow_heap _ _ _ _ _ _ hz2
 have hb3:=bn hb2 qL
 have aol:W8.heap.size<=ga:=by omega
 have aoi:ga<W3a.heap.size:=by omega
 have H3a:=ae (ag hb3 (ag agJ (ag (hS2.below qL (ai _)) (aN.dS (aC (Ms:=[]) hC (Ext.aA qL) (by simp))))))
 clear hX hC hW3 nX xZ qL hb2 hS2 hz2 hK hs2 hs3 hs2' hg hb3
 have ZK:=H3a.o.1
 have V8:aN 1 W3a (.slice coa (xM (jP++rD)).length cca) (xM (jP++rD)).length (ah (xM (jP++rD))):=H3a.o.2.2.2
 rw[PZ] at V8⊢
 rw[su.2]
 simp only[List.length_cons,List.length_nil,Nat.reduceAdd] at V8⊢
 have pW:=ae (bn pU.o ZK)
 have hU9:=HU8.o.below ZK (ai _)
 have HV9:=ae (Ic.o.below ZK (ai _))
 have HW9:=ae (HW8.o.below ZK (ai _))
 have hlc:16<=cca:=by obtain⟨_,o',c',hv,h1,_⟩:=V8;cases hv;exact h1
 obtain⟨eb,abU,rfl,heb,_⟩:=aO.cell (l:=[0,0,0,0,0,0,0,0,0,0,0,0,0,2,6,4]) V8 (k:=0) (by simp)
 have hcut:=aN.cut V8 (l:=13) (k:=16) (by omega) (by omega)
 rw[show sliced (some ⟨eb,abU,none⟩) 13 16 cca 1= .slice (some ⟨eb,abU+13,none⟩) 3 (cca-13) from by unfold sliced;rw[aj (by omega)];simp[Addr.add_lit]] at hcut
 have BH:=ae (show aO W3a (.slice (some ⟨eb,abU+13,none⟩) 3 (cca-13)) [2,6,4] from hcut)
 obtain⟨ub,ann,rfl,hub,d1,d2⟩:=bP.cell (l:=[(5,20),(0,15)]) hU9 (k:=0) (by simp)
 obtain⟨ub2,alD,he,_,e1,e2⟩:=bP.cell (l:=[(5,20),(0,15)]) hU9 (k:=1) (by simp)
 injection he with he
 injection he with h1 h2
 subst h1 h2
 simp only[au,Nat.zero_mul,Nat.one_mul,Nat.add_zero] at d1 d2 e1 e2
 have HI:Hid (∀W,W=W3a.alloc (.cells #[iv 0] 3)->Calls Tryz.prog 30 #[.slice vo 1 vc,.slice (some ⟨W3a.heap.size,0,none⟩) 1 1] W (PV (.bool true) W)):=ae (fun W hW=>Rl [0] _ _ W (by rw[hW];exact HV9.o.alloc _) (by
  have hk:W.heap[W3a.heap.size]? =some (.cells #[iv 0] 3 (0,0)):=by rw[hW];exact ay _ _
  exact aN.dD 1 1 hk rfl (by decide)))
 clear HU8 Ic HW8 HL8 H3a ZK V8 hU9 hcut agJ
 go_wp2_with fail
 refine(HI.o _ rfl).mono ?_
 rintro e Td ⟨rfl,zU⟩
 have Uj:=bn (ak (aH W3a.heap.size W3a) (.cells #[iv 0] 3)) zU
 have Xz:=ae (bn pW.o Uj)
 have hcv:(convert 25 9 (.slice wo 10 wc)).run Tryz.prog Td= .ok (.string (gI [48,49,58,97,58,48,50,50,51,10])) Td:=zZ (n:=10) (HW9.o.below Uj (ai _))
 have HC:Hid (∀W,W=Td.alloc (.cells #[iv 2,iv 6,iv 4] 3)->Calls Tryz.prog 22 #[.slice (some ⟨eb,abU+13,none⟩) 3 (cca-13),.slice (some ⟨Td.heap.size,0,none⟩) 3 3] W (PV (.bool true) W)):=ae (fun W hW=>WN [2,6,4] _ _ W (by rw[hW];exact(BH.o.below Uj (ai _)).alloc _) (by
  have hk:W.heap[Td.heap.size]? =some (.cells #[iv 2,iv 6,iv 4] 3 (0,0)):=by rw[hW];exact ay _ _
  exact aN.dD 1 3 hk rfl (by decide)))
 clear zU Uj HI d1 d2 e1 e2
 go_wp2_with fail
 refine(HC.o _ rfl).mono ?_
 rintro e W11 ⟨rfl,ag7⟩
 have acp:=ae (bn Xz.o (bn (ak (aH Td.heap.size Td) (.cells #[iv 2,iv 6,iv 4] 3)) ag7))
 clear ag7 HC hcv
 go_wp2_with fail
 go_returns
 exact⟨rfl,acp.o⟩
theorem Ov (ls:List az):(wV ls).length=eY ls:=wH ls 0
theorem UX {ls:List az} (h0:fH ls=0) (n:Nat):
 dL 40 0 (wV ls)=ls/\(wV ls).length<=2760/\ ∃m,m<=ls.length/\dL 40 0 ((wV ls).take n)=ls.take m/\eY (ls.take m)<=n/\(m=ls.length∨n<eY (ls.take (m+1))):=by
 have hf:=nY h0
 refine⟨Vb hf.2 40 hf.1 0,?_,Np ls 40 0 n hf.2 hf.1⟩
 rw[Ov]
 have:=Fv ls hf.2
 omega
theorem iU.to {w:World} {o:Option Addr} {ls:List az} {c:Nat} (h:aN 1 w (.slice o ls.length c) ls.length (cZ ls)) {k:Nat} (hk:k<=ls.length) {x:Int} (hx:x=k):
 ∃so sc,(∀W,(Instr.slice 22 (.slice o ls.length c) none (some (iv x)) none).run Tryz.prog W= .ok (.slice so k sc) W)/\aN 1 w (.slice so k sc) k (cZ (ls.take k)):=by
 subst hx
 have hc:ls.length<=c:=by obtain⟨_,o',c',hv,h1,_⟩:=h;cases hv;exact h1
 obtain⟨so,sc,h1,h2⟩:=Z4 (P:=Tryz.prog) 22 (by kernel_rfl) (fun W=>by rw[show Tryz.prog.elem 22=9 by kernel_rfl];simp[go_sem]) (o:=o) (n:=ls.length) (c:=c) (iR hk hc)
 have h3:=aN.cut h (bM _) hk
 rw[h2,List.drop_zero] at h3
 refine⟨so,sc,h1,?_⟩
 rw[show cZ (ls.take k)=(cZ ls).take k from by simp[cZ,List.map_take]]
 exact h3
theorem aje (k n:Nat) (hn:0<n):(k:Int).tmod (n:Int)=((k%n:Nat):Int):=by rw[Int.tmod_eq_emod_of_nonneg (by omega)];omega
theorem IV (ls:List az) (lv:Value) (cut:Int) (hc0:0<=cut) (hc6:cut<=65535) (w:World) (hv:iU w lv ls) (hE:Env w):Calls Tryz.prog 4 #[lv,.int .u16 cut] w (PV (.bool true) w):=by
 obtain⟨k,rfl⟩: ∃k:Nat,cut=k:=⟨cut.toNat,by omega⟩
 have hk6:k<=65535:=by omega
 clear hc0 hc6
 obtain⟨lo,lc,rfl⟩:=aN.open hv
 have HT:=ae (aas ls _ w hv)
 have HV:=ae (fun W (hb:Below w.heap.size w W)=>hv.below hb (ai _))
 have UF:=ae (fun W (hb:Below w.heap.size w W)=>Po W (hE.below hb (ai _)))
 clear hv hE
 obtain⟨th,hth⟩: ∃t,MP ls=t:=⟨_,rfl⟩
 rw[hth] at HT
 clear hth
 go_enter Tryz.func4,Tryz.ntmps4
 go_wp2_with fail
 refine HT.o.mono ?_
 rintro e W1 ⟨rfl,hB1⟩
 have HB1:=ae hB1
 clear hB1 HT
 cases th with
 |false=>
  go_wp2_with fail
  refine(UF.o W1 HB1.o).mono ?_
  rintro e Wz ⟨rfl,hbz⟩
  have HBZ:=ae (bn HB1.o hbz)
  clear hbz
  go_wp2_with fail
  go_returns
  exact⟨by simp,HBZ.o⟩
 |true=>
 have HLF:=ae (QX ls _ W1 (HV.o W1 HB1.o))
 obtain⟨q,hq⟩: ∃q,fH ls=q:=⟨_,rfl⟩
 rw[hq] at HLF
 go_wp2_with fail
 refine HLF.o.mono ?_
 rintro e W2 ⟨rfl,hB2⟩
 have HB2:=ae (bn HB1.o hB2)
 clear hB2 HLF
 by_cases hq0:q=0
 rotate_left
 ·have hqb:(q !=0)=true:=by simpa using hq0
  clear hq
  go_wp2_with fail
  refine(UF.o W2 HB2.o).mono ?_
  rintro e Wz ⟨rfl,hbz⟩
  have HBZ:=ae (bn HB2.o hbz)
  clear hbz
  go_wp2_with fail
  go_returns
  exact⟨by simp,HBZ.o⟩
 subst hq0
 have hf:=nY hq
 have h40:ls.length<=40:=hf.1
 have Xy:=ae hq
 have TI:=ae (fun l (hl:l∈ls)=>show l.length<=1000000 by have:=hf.2 l hl;omega)
 clear hq hf
 go_wp2_with fail
 refine(QW (ls) (.slice lo ls.length lc) W2 (HV.o W2 HB2.o) (by have:=h40;omega)).mono ?_
 rintro e Wla ⟨ola,cla,rfl,hol,hbl⟩
 have alq:=ae (bn HB2.o hbl)
 have ak8:=ae (aN.dS hol)
 have apO:=ae hbl
 clear hbl hol
 have HWR:=ae (JY ls _ Wla ak8.o TI.o)
 rw[Xy.o] at HWR
 go_wp2_with fail
 refine HWR.o.mono ?_
 rintro e W3 ⟨hB3,⟨hn,_⟩|⟨_,v,rfl,hvo⟩⟩
 ·exact absurd rfl hn
 obtain⟨o3,c3,rfl⟩:=aW hvo
 obtain⟨F,hF⟩: ∃F,wV ls=F:=⟨_,rfl⟩
 obtain⟨h1,h2,h3⟩:=UX Xy.o (k%(F.length+1))
 rw[hF] at h1 h2 h3 hvo⊢
 have RH:F.length=eY ls:=by rw[<-hF,Ov]
 obtain⟨n,hn⟩: ∃n,k%(F.length+1)=n:=⟨_,rfl⟩
 have hnl:n<=F.length:=by have:=Nat.mod_lt k (show 0<F.length+1 by omega);omega
 rw[hn] at h3
 obtain⟨m,hm,h4,h5,h6⟩:=h3
 have hmod:(k:Int).tmod ((F.length:Int)+1)=(n:Int):=by
  rw[show(F.length:Int)+1=((F.length+1:Nat):Int) from by omega,aje k _ (by omega),hn]
 have hne1: ¬((F.length:Int)+1=0):=by omega
 have hkw:wrap64 (k:Int)=k:=IntWalk.wrap64_in _ ⟨by omega,by omega⟩
 have hw1:wrap64 ((F.length:Int)+1)=(F.length:Int)+1:=IntWalk.wrap64_in _ ⟨by omega,by omega⟩
 have HB3:=ae (bn alq.o hB3)
 have HO3:=ae (aN.dS hvo)
 have HL:=ae (ag h1 (ag h4 h6))
 have HFL:=ae RH
 have HFE:=ae hF
 clear hB3 hvo h1 h4 h6 RH hF hn
 go_wp2_with (at_builtin;go_loud (refine eU rfl _ _ Fh rfl W3.heap.size (.slice none 0 0) 0 [] rfl (by exact⟨rfl,.inl ⟨rfl,rfl⟩⟩) (.slice o3 F.length c3) F.length (Lib.byteCells F) rfl HO3.o (CX F) (by omega) (by omega) (by simp) ?_))
 intro v4 W4 hown hgr _
 have hB4:Below W3.heap.size W3 W4:=Below.grown (aH _ _) hgr (ai _) (fun g e=>by cases e)
 (try rw[Nat.zero_add] at hown)
 (try rw[List.nil_append] at hown)
 obtain⟨o4,c4,rfl⟩:=aW hown
 have HB4:=ae (bn HB3.o hB4)
 have HO4:=ae (HO3.o.below hB4 (ai _))
 have HRC:=ae (Eh F _ W4 (aN.dS hown) (by omega))
 clear hown hgr hB4
 go_wp2_with fail
 refine HRC.o.mono ?_
 rintro e W5 ⟨xg,v5,rfl,hv5⟩
 rw[HL.o.1] at hv5⊢
 rw[<-HFL.o]
 obtain⟨o5,c5,rfl⟩:=aW hv5
 have pV:=ae (bn HB4.o xg)
 have HO5:=ae (aN.dS hv5)
 obtain⟨so,sc,e1,t1⟩:=BytesAt.to (aN.below HO4.o xg (ai _)) hnl (x:=(n:Int)) rfl
 have htl:(F.take n).length=n:=by simp;omega
 have HT1:=ae t1
 clear xg hv5 HRC t1
 go_wp2_with (at_builtin;go_loud (refine eU rfl _ _ Fh rfl W5.heap.size (.slice none 0 0) 0 [] rfl (by exact⟨rfl,.inl ⟨rfl,rfl⟩⟩) (.slice so n sc) n (Lib.byteCells (F.take n)) rfl HT1.o (CX (F.take n)) (by omega) (by omega) (by simp) ?_))
 intro v6 W6 hown hgr _
 have IB:Below W5.heap.size W5 W6:=Below.grown (aH _ _) hgr (ai _) (fun g e=>by cases e)
 (try rw[Nat.zero_add] at hown)
 (try rw[List.nil_append] at hown)
 obtain⟨o6,c6,rfl⟩:=aW hown
 have qG:=ae (bn pV.o IB)
 have HO5:=ae (aN.below HO5.o IB (ai _))
 have h6':aN 1 W6 (.slice o6 n c6) (F.take n).length (Lib.byteCells (F.take n)):=by rw[htl];exact aN.dS hown
 have HRC:=ae (Eh (F.take n) _ W6 h6' (by omega))
 clear hown hgr IB h6' e1
 go_wp2_with fail
 refine HRC.o.mono ?_
 rintro e W7 ⟨Ib,v7,rfl,hv7⟩
 rw[HL.o.2.1] at hv7⊢
 have hml:(ls.take m).length=m:=by simp;omega
 rw[hml] at hv7
 obtain⟨o7,c7,rfl⟩:=aW hv7
 have zB:=ae (bn qG.o Ib)
 have HO5:=ae (aN.below HO5.o Ib (ai _))
 have HO7:=ae (aN.dS hv7)
 have hLv:=HV.o W7 zB.o
 have HTX:=ae (Ja ls _ _ W7 HO5.o hLv)
 clear Ib hv7 HRC hLv
 go_wp2_with fail
 refine HTX.o.mono ?_
 rintro e W8 ⟨rfl,Ah⟩
 have pU:=ae (bn zB.o Ah)
 have HO7:=ae (aN.below HO7.o Ah (ai _))
 clear Ah HTX HO5
 have hle: ∀j,eY (ls.take j)<=2760:=fun j=>by
  have:=Fv (ls.take j) fun l hl=>(nY Xy.o).2 l (nZ hl)
  have hj:(ls.take j).length<=ls.length:=by simp;omega
  omega
 have HLE:=ae hle
 have hmi: ¬(ls.length:Int)<(m:Int):=by omega
 have hsi: ¬(n:Int)<((eY (ls.take m):Nat):Int):=by omega
 clear hle hkw hw1 hmod hne1
 go_wp2_with fail
 go_loopw [12,13] (fun z i wr=> ∃j:Nat,j<=m/\i= .int .i64 j/\z= .int .i64 (eY (ls.take j):Nat)/\Below W8.heap.size W8 wr) (fun _ i _=>m-(intOf i).toNat)
 case atStart=>exact⟨0,bM _,rfl,rfl,aH _ _⟩
 case round=>
  obtain⟨j,hj,rfl,rfl,hB⟩:=hrel
  have UI:=ae (bn pU.o hB)
  have hbj:=HLE.o j
  by_cases hlt:j<m
  ·have hjl:j<ls.length:=by omega
   obtain⟨g,off,rfl,hg,hc⟩:=qc (HV.o wr UI.o) hjl
   obtain⟨l,hl⟩: ∃l,ls[j]=l:=⟨_,rfl⟩
   rw[hl] at hc
   have agw:l.length<=60:=(nY Xy.o).2 l (hl▸df _)
   have hnx:eY (ls.take (j+1))=eY (ls.take j)+(9+l.length):=by
    rw[iC hjl,uZ,hl]
    simp[eY]
   have TG:=ae hnx
   have hsz:=ng l
   generalize eY (ls.take j)=z at*
   clear hnx hl
   go_wp2_with fail
   refine⟨⟨j+1,by omega,by go_num,by rw[TG.o];first|rfl|(congr 1;done)|(congr 1;omega),hB⟩,by simp[intOf];omega⟩
  ·obtain rfl:j=m:=by omega
   have hjj: ¬(j:Int)<j:=by omega
   obtain⟨so2,sc2,e2,t2⟩:=iU.to (HV.o wr UI.o) hm (x:=(j:Int)) rfl
   have HTY:=ae (Ja (ls.take j) (.slice o7 j c7) (.slice so2 j sc2) wr (by unfold iU;rw[hml];exact aN.below HO7.o hB (ai _)) (by unfold iU;rw[hml];exact t2))
   clear t2
   go_wp2_with fail
   refine HTY.o.mono ?_
   rintro e W9 ⟨rfl,XH⟩
   have pW:=ae (bn UI.o XH)
   clear XH HTY e2
   by_cases hje:j=ls.length
   ·have hjb:((j:Int)==(ls.length:Int))=true:=by simp;omega
    go_wp2_with fail
    refine(UF.o W9 pW.o).mono ?_
    rintro e Wz ⟨rfl,hbz⟩
    have HBZ:=ae (bn pW.o hbz)
    clear hbz
    go_wp2_with fail
    go_returns
    exact⟨by simp,HBZ.o⟩
   ·have hjl:j<ls.length:=by omega
    have hjb:((j:Int)==(ls.length:Int))=false:=by simp;omega
    obtain⟨g,off,rfl,hg,hc⟩:=qc (HV.o W9 pW.o) hjl
    obtain⟨l,hl⟩: ∃l,ls[j]=l:=⟨_,rfl⟩
    rw[hl] at hc
    have agw:l.length<=60:=(nY Xy.o).2 l (hl▸df _)
    have hnx:eY (ls.take (j+1))=eY (ls.take j)+(9+l.length):=by
     rw[iC hjl,uZ,hl]
     simp[eY]
    have h6:=HL.o.2.2.resolve_left hje
    rw[hnx] at h6
    have hgt:(n:Int)<(eY (ls.take j):Nat)+9+(l.length:Int):=by omega
    have hsz:=ng l
    clear hnx hl h6
    go_wp2_with fail
    refine(UF.o W9 pW.o).mono ?_
    rintro e Wz ⟨rfl,hbz⟩
    have HBZ:=ae (bn pW.o hbz)
    clear hbz
    go_wp2_with fail
    go_returns
    exact⟨by simp,HBZ.o⟩
end Go.Proofs.YthllkbbbapgelaaGreatDoor.Bk
end

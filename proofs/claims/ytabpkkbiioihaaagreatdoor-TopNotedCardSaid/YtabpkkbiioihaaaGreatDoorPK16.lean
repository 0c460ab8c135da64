/-
  Texts of this claim, packed by a program: YI YK EU EL EM EO EP EQ ER ES ET EV EW.
-/
import Derived.WalkKit
import Derived.WalkLawsBesides
import Derived.WalkSpells
import Derived.Outline
import Derived.Handy
import Derived.KernelRfl
import Derived.Lib.Hide
import Derived.BigRegion
import Derived.Laws.DeepStrings4
import Derived.Laws.IdiomStrings
import Derived.Test.YtabpkkbiioihaaaGreatDoorPK15
set_option maxHeartbeats 8000000
set_option maxRecDepth 100000
set_option linter.all false
section
namespace Go.Proofs.YtabpkkbiioihaaaGreatDoor
open Go.RowKit Go.RG Go.SL Go.Shelf gZ Go.TB
structure iq (x:ax) (rows ps:List Int):Prop where
 Rf:rows∈aG x.field []
 len:ps.length=x.field.ai.toNat
 pay: ∀i,i<x.field.ai.toNat->0<=ps.getD i 0/\ps.getD i 0<=(bu x.rate rows).getD i 0
 box:x.box.1<=ja ps/\ja ps<=x.box.2
 notes: ∀n∈x.notes,n.2.1<=ps.getD n.1.toNat 0/\ps.getD n.1.toNat 0<=n.2.2
theorem iq.known {x:ax} {rows ps:List Int} (h:iq x rows ps) (out:List Int) {i:Nat} (hi:i<x.field.ai.toNat):(eX x out i ((bu x.rate rows).getD i 0)).1<=ps.getD i 0/\ps.getD i 0<=(eX x out i ((bu x.rate rows).getD i 0)).2:=by
 have hp:=h.pay i hi
 have:inB (ps.getD i 0) (eX x out i ((bu x.rate rows).getD i 0)).1 (eX x out i ((bu x.rate rows).getD i 0)).2=true:=by
  unfold eX
  rw[uM,Bool.and_eq_true,List.all_eq_true]
  refine⟨by unfold inB;simpa using hp,fun k hk=>?_⟩
  obtain⟨h1,h2⟩:=List.mem_filter.1 hk
  have h1:=List.mem_range.1 h1
  rw[Bool.and_eq_true,beq_iff_eq] at h2
  have hm:x.notes.getD k (0,(0,0))∈x.notes:=by
   rw[show x.notes.getD k (0,(0,0))=x.notes[k] from by simp[List.getD,h1]]
   exact List.getElem_mem _
  have:=h.notes _ hm
  rw[h2.2,Int.toNat_natCast] at this
  unfold inB
  simpa using this
 unfold inB at this
 simpa using this
theorem iq.can {x:ax} {rows ps:List Int} (h:iq x rows ps) (out:List Int):eu x out (bu x.rate rows)=true:=by
 rw[LM (by have:=h.box;omega)]
 refine⟨ps,by rw[h.len,jZ],fun i hi=>?_,h.box.1,h.box.2⟩
 rw[jZ] at hi
 rw[ku x out _ hi]
 exact h.known out hi
theorem iq.jC {x:ax} {rows ps:List Int} (h:iq x rows ps):bu x.rate rows∈bz x:=sU.2 ⟨rows,h.Rf,rfl⟩
theorem iq.possible {x:ax} {rows ps:List Int} (h:iq x rows ps) (out:List Int):dF x out=true:=by
 unfold dF
 rw[List.any_eq_true]
 exact⟨_,h.jC,h.can out⟩
theorem iq.asked {x:ax} {rows ps:List Int} (h:iq x rows ps) (h0:dV x=0):bC x true=0:=by
 unfold bC
 rw[h0,h.possible []]
 simp
theorem yU: ∀{xs ys:List Int},xs.length=ys.length->(∀i,i<xs.length->xs.getD i 0<=ys.getD i 0)->ja xs<=ja ys:=by
 intro xs
 induction xs with
 |nil=>
  intro ys hl _
  obtain rfl:=List.eq_nil_of_length_eq_zero hl.symm
  exact Int.le_refl _
 |cons a xs ih=>
  intro ys hl h
  cases ys with
  |nil=>simp at hl
  |cons b ys=>
   have h1:=h 0 (by simp)
   have h2:=ih (ys:=ys) (by simpa using hl) fun i hi=>by
    have:=h (i+1) (by simpa using hi)
    simpa using this
   rw[iy,iy]
   simp at h1
   omega
theorem iq.paid {x:ax} {rows ps:List Int} (h:iq x rows ps) {i:Nat} (hi:i<x.field.ai.toNat):((gK x [] (bu x.rate rows)).getD i (0,0)).1<=ps.getD i 0/\ps.getD i 0<=((gK x [] (bu x.rate rows)).getD i (0,0)).2:=by
 have hk:=h.known [] hi
 have hb:=h.box
 have hlen:=jZ x [] (bu x.rate rows)
 have hpi:i<ps.length:=by rw[h.len];exact hi
 have hai:i<(alone x [] (bu x.rate rows)).length:=by rw[hlen];exact hi
 have hag:=ku x [] (bu x.rate rows) hi
 have each: ∀(f:bK->Int) j,j<x.field.ai.toNat->(((alone x [] (bu x.rate rows)).map f).set i (f (0,0)-f (0,0))).getD j 0=if i=j then 0 else f (eX x [] j ((bu x.rate rows).getD j 0)):=by
  intro f j hj
  have hg:=ku x [] (bu x.rate rows) hj
  have hjl:j<(alone x [] (bu x.rate rows)).length:=by rw[hlen];exact hj
  rw[List.getD_eq_getElem?_getD,List.getElem?_eq_getElem hjl,Option.getD_some] at hg
  rw[List.getD_eq_getElem?_getD,List.getElem?_eq_getElem (by simpa using hjl),Option.getD_some,List.getElem_set]
  split
  ·omega
  ·rw[List.getElem_map,hg]
 have hps: ∀j,j<x.field.ai.toNat->(ps.set i 0).getD j 0=if i=j then 0 else ps.getD j 0:=by
  intro j hj
  have hjl:j<ps.length:=by rw[h.len];exact hj
  rw[List.getD_eq_getElem?_getD,List.getElem?_eq_getElem (by simpa using hjl),Option.getD_some,List.getElem_set]
  split
  ·rfl
  ·simp[List.getD,hjl]
 have g1:ja (((alone x [] (bu x.rate rows)).map (·.1)).set i 0)<=ja (ps.set i 0):=by
  refine yU (by simp[hlen,h.len]) fun j hj=>?_
  have hj':j<x.field.ai.toNat:=by simpa [hlen] using hj
  have:=each (·.1) j hj'
  simp only[Int.sub_self] at this
  rw[this,hps j hj']
  split
  ·omega
  ·exact(h.known [] hj').1
 have g2:ja (ps.set i 0)<=ja (((alone x [] (bu x.rate rows)).map (·.2)).set i 0):=by
  refine yU (by simp[hlen,h.len]) fun j hj=>?_
  have hj':j<x.field.ai.toNat:=by simpa [h.len] using hj
  have:=each (·.2) j hj'
  simp only[Int.sub_self] at this
  rw[this,hps j hj']
  split
  ·omega
  ·exact(h.known [] hj').2
 rw[kZ (by simpa using hai),kZ hpi] at g1
 rw[kZ hpi,kZ (by simpa using hai)] at g2
 have k1:((alone x [] (bu x.rate rows)).map (·.1)).getD i 0=(eX x [] i ((bu x.rate rows).getD i 0)).1:=by
  rw[<-hag]
  simp[List.getD,hai]
 have k2:((alone x [] (bu x.rate rows)).map (·.2)).getD i 0=(eX x [] i ((bu x.rate rows).getD i 0)).2:=by
  rw[<-hag]
  simp[List.getD,hai]
 rw[k1] at g1
 rw[k2] at g2
 rw[sQ x [] _ hi]
 unfold bothR uB nJ
 simp only
 omega
theorem iq.inside {x:ax} {rows ps:List Int} (h:iq x rows ps) {i:Nat} (hi:i<x.field.ai.toNat):
 (((jG BV x (bz x)).getD i (0,0)).1<=(bu x.rate rows).getD i 0/\(bu x.rate rows).getD i 0<=((jG BV x (bz x)).getD i (0,0)).2)/\
 (((jG kQ x (bz x)).getD i (0,0)).1<=ps.getD i 0/\ps.getD i 0<=((jG kQ x (bz x)).getD i (0,0)).2)/\
 (((jG iR x (bz x)).getD i (0,0)).1<=(bu x.rate rows).getD i 0-ps.getD i 0/\(bu x.rate rows).getD i 0-ps.getD i 0<=((jG iR x (bz x)).getD i (0,0)).2):=by
 have hex: ∃d∈bz x,eu x [] d=true:=⟨_,h.jC,h.can []⟩
 have vS:=fun p=>Ah hex p hi
 have hp:=h.paid hi
 have e1:((jG BV x (bz x)).getD i (0,0)).1<=(bu x.rate rows).getD i 0:=(vS BV).low.2 _ ⟨_,h.jC,h.can [],rfl⟩
 have e2:(bu x.rate rows).getD i 0<=((jG BV x (bz x)).getD i (0,0)).2:=(vS BV).high.2 _ ⟨_,h.jC,h.can [],rfl⟩
 have p1:((jG kQ x (bz x)).getD i (0,0)).1<=((gK x [] (bu x.rate rows)).getD i (0,0)).1:=(vS kQ).low.2 _ ⟨_,h.jC,h.can [],rfl⟩
 have p2:((gK x [] (bu x.rate rows)).getD i (0,0)).2<=((jG kQ x (bz x)).getD i (0,0)).2:=(vS kQ).high.2 _ ⟨_,h.jC,h.can [],rfl⟩
 have o1:((jG iR x (bz x)).getD i (0,0)).1<=(bu x.rate rows).getD i 0-((gK x [] (bu x.rate rows)).getD i (0,0)).2:=(vS iR).low.2 _ ⟨_,h.jC,h.can [],rfl⟩
 have o2:(bu x.rate rows).getD i 0-((gK x [] (bu x.rate rows)).getD i (0,0)).1<=((jG iR x (bz x)).getD i (0,0)).2:=(vS iR).high.2 _ ⟨_,h.jC,h.can [],rfl⟩
 exact⟨⟨e1,e2⟩,⟨by omega,by omega⟩,⟨by omega,by omega⟩⟩
theorem oH {l:ax} (hS:kJ l) {rows:List Int} (hr:rows∈aG l.field []) (hc:eu l [] (bu l.rate rows)=true) {i:Nat} (hi:i<l.field.ai.toNat) {p:Int}
 (h1:((gK l [] (bu l.rate rows)).getD i (0,0)).1<=p) (h2:p<=((gK l [] (bu l.rate rows)).getD i (0,0)).2): ∃ps,iq l rows ps/\ps.getD i 0=p:=by
 rw[sQ l [] _ hi] at h1 h2
 have hlen:=jZ l [] (bu l.rate rows)
 have hai:i<(alone l [] (bu l.rate rows)).length:=by rw[hlen];exact hi
 have hall: ∀r∈alone l [] (bu l.rate rows),r.1<=r.2:=fun r hm=>by
  unfold eu at hc
  simp only[Bool.and_eq_true,List.all_eq_true,decide_eq_true_eq] at hc
  exact hc.1.1 r hm
 have hget:=ku l [] (bu l.rate rows) hi
 have e1: ∀f:bK->Int,(((alone l [] (bu l.rate rows)).set i (p,p)).map f)=((alone l [] (bu l.rate rows)).map f).set i (f (p,p)):=fun f=>List.map_set
 have g: ∀f:bK->Int,((alone l [] (bu l.rate rows)).map f).getD i 0=f (eX l [] i ((bu l.rate rows).getD i 0)):=fun f=>by
  rw[<-hget];simp[List.getD,hai]
 have s1:ja (((alone l [] (bu l.rate rows)).set i (p,p)).map (·.1))=uB l [] (bu l.rate rows)-(eX l [] i ((bu l.rate rows).getD i 0)).1+p:=by
  rw[e1,kZ (by simpa using hai),g];rfl
 have s2:ja (((alone l [] (bu l.rate rows)).set i (p,p)).map (·.2))=nJ l [] (bu l.rate rows)-(eX l [] i ((bu l.rate rows).getD i 0)).2+p:=by
  rw[e1,kZ (by simpa using hai),g];rfl
 generalize hk:eX l [] i ((bu l.rate rows).getD i 0)=kr at*
 have hall': ∀r∈(alone l [] (bu l.rate rows)).set i (p,p),r.1<=r.2:=fun r hm=>by
  rcases List.mem_or_eq_of_mem_set hm with h|rfl
  ·exact hall r h
  ·exact Int.le_refl _
 have hb:=hS.box
 unfold bothR at h1 h2
 simp only at h1 h2
 obtain⟨s,a1,a2,a3,a4⟩:=(together (MJ hall') hb.2.1).2 ⟨by rw[s1];omega,by rw[s2];omega⟩
 obtain⟨ps,b1,b2,b3⟩:=(uw _ hall' s).1 ⟨a1,a2⟩
 rw[List.length_set,hlen] at b1 b2
 have hpi:ps.getD i 0=p:=by
  have:=b2 i hi
  rw[List.getD_eq_getElem?_getD (l:=(alone l [] (bu l.rate rows)).set i (p,p)),List.getElem?_set_self hai,Option.getD_some] at this
  simp only at this
  omega
 have hkn: ∀j,j<l.field.ai.toNat->inB (ps.getD j 0) (eX l [] j ((bu l.rate rows).getD j 0)).1 (eX l [] j ((bu l.rate rows).getD j 0)).2=true:=fun j hj=>by
  by_cases e:i=j
  ·subst e
   rw[hpi,hk]
   unfold inB
   simp only[Bool.and_eq_true,decide_eq_true_eq]
   omega
  ·have:=b2 j hj
   rw[List.getD_eq_getElem?_getD (l:=(alone l [] (bu l.rate rows)).set i (p,p)),List.getElem?_set_ne e, <-List.getD_eq_getElem?_getD,ku l [] _ hj] at this
   unfold inB
   simp only[Bool.and_eq_true,decide_eq_true_eq]
   omega
 refine⟨ps,⟨hr,b1,fun j hj=>?_,by rw[b3];exact⟨a3,a4⟩,fun n hn=>?_⟩,hpi⟩
 ·have:=hkn j hj
  unfold eX at this
  rw[uM,Bool.and_eq_true] at this
  simpa [inB] using this.1
 ·obtain⟨k,hk',rfl⟩:=List.getElem_of_mem hn
  have hw:=hS.notes _ hn
  have:=hkn (l.notes[k].1).toNat (by omega)
  unfold eX at this
  rw[uM,Bool.and_eq_true,List.all_eq_true] at this
  have h3:=this.2 k (List.mem_filter.2 ⟨List.mem_range.2 hk',by simp[List.getD,hk'];omega⟩)
  simpa [inB,List.getD,hk'] using h3
theorem J7 {l:ax} {rows ps:List Int} (h:iq l rows ps) {x:wP} (hx:x.2.1<=ps.getD x.1.toNat 0/\ps.getD x.1.toNat 0<=x.2.2):iq (wH l x) rows ps:=
 ⟨h.Rf,h.len,h.pay,h.box,fun n hn=>by
   rcases List.mem_append.1 hn with hn|hn
   ·exact h.notes n hn
   ·obtain rfl:=List.mem_singleton.1 hn
    exact hx⟩
theorem yK {l:ax} (hp: ∃d∈bz l,eu l [] d=true) (p:Int->bK->bK):(jG p l (bz l)).length=l.field.ai.toNat:=by
 rcases Dk p l (bz l) (bz l).length (Nat.le_refl _) with h|h
 ·obtain⟨d,hd,hc⟩:=hp
  by_cases h0:0<l.field.ai.toNat
  ·rcases Ai p l (bz l) h0 (bz l).length (Nat.le_refl _) with⟨_,h2⟩|⟨h1,_⟩
   ·rw[List.take_length] at h2
    rw[h2 d hd] at hc;cases hc
   ·exact h1
  ·unfold jG;rw[h];simp;omega
 ·exact h
theorem Ce {l:ax} (ha:bC l true=0) {i:Nat} (hi:i<l.field.ai.toNat):
 iw (fun y=> ∃rows ps,iq l rows ps/\y=((bu l.rate rows).getD i 0-ps.getD i 0,(bu l.rate rows).getD i 0-ps.getD i 0)) ((jG iR l (bz l)).getD i (0,0)):=by
 obtain⟨hS,hp⟩:=pJ ha
 refine(Ah hp iR hi).points (fun y=>?_) (fun z=>?_)
 ·rintro⟨d,hd,hc,rfl⟩
  obtain⟨t,ht,rfl⟩:=sU.1 hd
  have hb:=qU hS hd hc hi
  obtain⟨ps,h1,h2⟩:=oH hS ht hc hi (Int.le_refl _) hb.2.1
  obtain⟨qs,k1,k2⟩:=oH hS ht hc hi hb.2.1 (Int.le_refl _)
  exact⟨⟨t,qs,k1,by rw[k2];rfl⟩,⟨t,ps,h1,by rw[h2];rfl⟩⟩
 ·rintro⟨rows,ps,h,rfl⟩
  have hpd:=h.paid hi
  exact⟨_,⟨_,h.jC,h.can [],rfl⟩,by unfold iR;simp only;omega,by unfold iR;simp only;omega⟩
theorem Oh {l:ax} (ha:bC l true=0) (h4:l.notes.length<=4) {k:Nat} (hk:k<l.field.ai.toNat) {h:bK} (hh:h=(jG kQ l (bz l)).getD k (0,0)):
 dV (wH l (k,h))=0/\bC (wH l (k,h)) true=0/\jG iR (wH l (k,h)) (bz (wH l (k,h)))=jG iR l (bz l)/\(0<=h.1/\h.1<=h.2/\h.2<=2000):=by
 obtain⟨hS,hp⟩:=pJ ha
 have hf:dV l=0:=by
  unfold bC at ha
  split at ha
  ·omega
  ·rename_i hq;simpa using hq
 have vS:=Ah hp kQ hk
 rw[<-hh] at vS
 have hbd:0<=h.1/\h.1<=h.2/\h.2<=2000:=by
  obtain⟨⟨⟨y,⟨d,hd,hc,rfl⟩,hy⟩,l2⟩,⟨z,⟨e,he,hce,rfl⟩,hz⟩,_⟩:=vS
  have b1:=qU hS hd hc hk
  have b2:=qU hS he hce hk
  have b3:=l2 _ ⟨e,he,hce,rfl⟩
  unfold kQ at hy hz b3
  omega
 have hfa:dV (wH l (k,h))=0:=by
  refine Ia hf rfl rfl rfl (by simp[wH];omega) fun x hx=>?_
  rcases List.mem_append.1 hx with hx|hx
  ·exact Gx hf x hx
  ·obtain rfl:=List.mem_singleton.1 hx
   unfold oV iG inB
   simp only[Bool.and_eq_true,decide_eq_true_eq]
   omega
 have same: ∀rows ps,iq (wH l (k,h)) rows ps↔iq l rows ps:=fun rows ps=>by
  constructor
  ·intro t
   exact⟨t.Rf,t.len,t.pay,t.box,fun n hn=>t.notes n (List.mem_append_left _ hn)⟩
  ·intro t
   refine J7 t ?_
   have:=(t.inside hk).2.1
   rw[<-hh] at this
   simpa using this
 have htr: ∃rows ps,iq l rows ps:=by
  obtain⟨d,hd,hc⟩:=hp
  obtain⟨t,ht,rfl⟩:=sU.1 hd
  have hb:=qU hS hd hc hk
  obtain⟨ps,h1,_⟩:=oH hS ht hc hk (Int.le_refl _) hb.2.1
  exact⟨t,ps,h1⟩
 obtain⟨rows,ps,ht⟩:=htr
 have ha':=((same rows ps).2 ht).asked hfa
 refine⟨hfa,ha',?_,hbd⟩
 have hw:(wH l (k,h)).field.ai.toNat=l.field.ai.toNat:=rfl
 have l1:=yK (pJ ha).2 iR
 have l2:=yK (pJ ha').2 iR
 rw[hw] at l2
 refine List.ext_getElem (by omega) fun i h1 h2=>?_
 have q1:=Ce ha (i:=i) (by omega)
 have q2:=Ce ha' (i:=i) (by rw[hw];omega)
 have q3:iw (fun y=> ∃rows ps,iq l rows ps/\y=((bu l.rate rows).getD i 0-ps.getD i 0,(bu l.rate rows).getD i 0-ps.getD i 0)) ((jG iR (wH l (k,h)) (bz (wH l (k,h)))).getD i (0,0)):=
  q2.congr fun x=>⟨fun⟨r,p,t,e⟩=>⟨r,p,(same r p).1 t,e⟩,fun⟨r,p,t,e⟩=>⟨r,p,(same r p).2 t,e⟩⟩
 have:=q3.unique q1
 simpa [List.getD,h1,h2] using this
def fB (f:aO) (t:yB):aO:={f with ae:=f.ae++[t]}
theorem QR {f:aO} (ha:cO f true=0) (h4:f.ae.length<=4) {k:Nat} (hk:k<f.ai.toNat) (hr:1<=f.rows) {h:bK} (hh:h=(lu f).getD k (0,0)):
 fC (fB f (k,0,f.rows-1,h))=0/\aG (fB f (k,0,f.rows-1,h)) []=aG f []/\(0<=h.1/\h.1<=h.2/\h.2<=f.rows):=by
 have hf:fC f=0:=by
  unfold cO at ha
  split at ha
  ·omega
  ·rename_i hq;simpa using hq
 have hne:aG f []≠[]:=by
  intro e
  unfold cO at ha
  rw[if_neg (by simpa using hf),if_neg (by simp),e] at ha
  simp at ha
 have hS:=fH hf
 have vS:=Lc hne hk
 rw[<-hh] at vS
 have hdone: ∀a∈aG f [],h.1<=fK f a (k:Int)/\fK f a (k:Int)<=h.2:=fun a hm=>⟨vS.low.2 _ ⟨a,hm,rfl⟩,vS.high.2 _ ⟨a,hm,rfl⟩⟩
 have hdr: ∀a∈aG f [],0<=fK f a (k:Int)/\fK f a (k:Int)<=f.rows:=fun a _=>by
  unfold fK xA rO
  have:=List.countP_le_length (p:=fun i=>a.getD i 0==(k:Int)) (l:=List.range' (0:Int).toNat (f.rows-1+1-0).toNat)
  rw[List.length_range'] at this
  omega
 have hbd:0<=h.1/\h.1<=h.2/\h.2<=f.rows:=by
  obtain⟨⟨⟨y,⟨a,hm,rfl⟩,hy⟩,_⟩,⟨z,⟨b,hb,rfl⟩,hz⟩,_⟩:=vS
  have h1:=hdr a hm
  have h2:=hdr b hb
  have h3:=hdone a hm
  simp only at hy hz
  omega
 refine⟨?_,?_,hbd⟩
 ·unfold fC at hf⊢
  split at hf
  ·omega
  rename_i a1
  split at hf
  ·omega
  rename_i a2
  split at hf
  ·omega
  rename_i a3
  rw[if_neg (by simp only[fB,List.length_append,List.length_singleton];omega),if_neg ?_,if_neg (by simpa [fB] using a3)]
  intro hc
  refine a2 ?_
  rcases hc with hc|hc|hc|hc
  ·exact .inl hc
  ·exact .inr (.inl hc)
  ·exact .inr (.inr (.inl hc))
  ·refine .inr (.inr (.inr ?_))
   have e:(fB f ((k:Int),0,f.rows-1,h)).ae.all (iE (fB f ((k:Int),0,f.rows-1,h)))=(f.ae.all (iE f)&&iE f ((k:Int),0,f.rows-1,h)):=by
    show(f.ae++[((k:Int),0,f.rows-1,h)]).all (iE f)=_
    rw[List.all_append]
    simp
   rw[e] at hc
   have e2:iE f ((k:Int),0,f.rows-1,h)=true:=by
    unfold iE inB okR
    simp only[Bool.and_eq_true,decide_eq_true_eq]
    omega
   rw[e2,Bool.and_true] at hc
   exact hc
 ·unfold aG
  show(kH f).filter (eF (fB f ((k:Int),0,f.rows-1,h)) [])=(kH f).filter (eF f [])
  refine List.filter_congr fun a hm=>?_
  have e1:((List.range f.ae.length).all fun i=>([]:List Int).contains (i:Int) ||kD a ((f.ae++[((k:Int),0,f.rows-1,h)]).getD i (0,0,0,(0,0))))=(List.range f.ae.length).all fun i=>([]:List Int).contains (i:Int) ||kD a (f.ae.getD i (0,0,0,(0,0))):=by
   rw[Bool.eq_iff_iff,List.all_eq_true,List.all_eq_true]
   have g: ∀i,i∈List.range f.ae.length->(f.ae++[((k:Int),0,f.rows-1,h)]).getD i (0,0,0,(0,0))=f.ae.getD i (0,0,0,(0,0)):=fun i hi=>by
    rw[List.getD_eq_getElem?_getD,List.getElem?_append_left (List.mem_range.1 hi), <-List.getD_eq_getElem?_getD]
   exact⟨fun q i hi=>by have:=q i hi;rwa [g i hi] at this,fun q i hi=>by rw[g i hi];exact q i hi⟩
  have e:eF (fB f ((k:Int),0,f.rows-1,h)) [] a=(eF f [] a&&kD a ((k:Int),0,f.rows-1,h)):=by
   show(((List.range (f.ae++[((k:Int),0,f.rows-1,h)]).length).all fun i=>([]:List Int).contains (i:Int) ||kD a ((f.ae++[((k:Int),0,f.rows-1,h)]).getD i (0,0,0,(0,0))))&&inB (xA a (-1) 0 (f.rows-1)) f.left.1 f.left.2)=_
   rw[List.length_append,List.length_singleton,List.range_succ,List.all_append,e1]
   unfold eF
   simp only[List.all_cons,List.all_nil,Bool.and_true,List.contains_nil,Bool.false_or]
   rw[List.getD_eq_getElem?_getD,List.getElem?_append_right (Nat.le_refl _),Nat.sub_self]
   simp only[List.getElem?_cons_zero,Option.getD_some]
   generalize kD a _=t1
   generalize List.all _ _=t2
   generalize inB _ _ _=t3
   cases t1 <;>cases t2 <;>cases t3 <;>rfl
  rw[e]
  cases hR:eF f [] a with
  |false=>rfl
  |true=>
   have hd:=hdone a (List.mem_filter.2 ⟨hm,hR⟩)
   have:kD a ((k:Int),0,f.rows-1,h)=true:=by
    unfold kD inB
    simp only[Bool.and_eq_true,decide_eq_true_eq]
    exact hd
   rw[this]
   rfl
end Go.Proofs.YtabpkkbiioihaaaGreatDoor
end
section
namespace Go.Proofs.YtabpkkbiioihaaaGreatDoor.Bk
open Go.RowKit Go.RG Go.SL Go.Shelf gZ Go.TB Go.Proofs.YtabpkkbiioihaaaGreatDoor.xH
structure Ja (s:gV):Prop where
 field:cO s.led.field true=0
 led:dV s.led=0
 heap:fault s.heap=0
 ask:kK.jv s.heap s.heap.turns=0
 keeps:kK.uC s.heap s.heap.turns≠2
 bG:kV s.bG=0
 acp:fM s.bG true=0
theorem BL {s:gV}:aJ s=0↔Ja s:=by
 unfold aJ
 constructor
 ·intro h
  split at h;· omega
  split at h;· omega
  split at h;· omega
  split at h;· omega
  split at h;· omega
  split at h;· omega
  split at h;· omega
  rename_i a b c d e f g
  exact⟨by simpa using a,by simpa using b,by simpa using c,by simpa using d,e,by simpa using f,by simpa using g⟩
 ·rintro⟨a,b,c,d,e,f,g⟩
  simp[a,b,c,d,e,f,g]
theorem Fa:aJ bJ=0:=by decide+kernel
theorem Vt (ls:List Bytes):Good (dH aJ bJ ls).1/\Ja (dH aJ bJ ls).1:=⟨BU _ Ak,BL.1 (Gh _ Fa)⟩
theorem Ro {ls:List Bytes} (h:eY ls=0):Good (fZ ls)/\Ja (fZ ls):=by
 unfold fZ
 rw[if_pos h]
 exact Vt ls
end Go.Proofs.YtabpkkbiioihaaaGreatDoor.Bk
end
section
namespace Go.Proofs.YtabpkkbiioihaaaGreatDoor.Bk
open Go.Lib Go.RowKit Go.RG Go.SL Go.Shelf gZ Go.TB Go.Proofs.YtabpkkbiioihaaaGreatDoor.xH
theorem Ns {s s2:gV} {line:Bytes} {c:gB} {n:List Int} (hp:parse line=some (c,n)) (ha:act s c n=(0,s2)) (hs:Ja s2):oK aJ s line=(s2,0):=by
 rw[tC hp,ha]
 have h0:=BL.2 hs
 simp[h0]
theorem Fb {f:aO} {t:yB} (h:cO f true=0) (hf:fC (fB f t)=0) (ht:aG (fB f t) []=aG f []):cO (fB f t) true=0:=by
 unfold cO at h⊢
 split at h
 ·omega
 rw[if_neg (by simp)] at h
 rw[if_neg (by simp[hf]),if_neg (by simp),ht]
 exact h
theorem Eo {l:ax} {t:yB} (hf:fC (fB l.field t)=0) (ht:aG (fB l.field t) []=aG l.field []):
 (dV l=0->dV ⟨fB l.field t,l.rate,l.box,l.notes⟩=0)/\bz ⟨fB l.field t,l.rate,l.box,l.notes⟩=bz l/\(∀out,dF ⟨fB l.field t,l.rate,l.box,l.notes⟩ out=dF l out):=by
 have hd:bz ⟨fB l.field t,l.rate,l.box,l.notes⟩=bz l:=by
  unfold bz jS
  show((aG (fB l.field t) []).take (aG (fB l.field t) []).length).foldl _ []=_
  rw[ht]
 have hp: ∀out,dF ⟨fB l.field t,l.rate,l.box,l.notes⟩ out=dF l out:=fun out=>by
  unfold dF
  rw[hd]
  rfl
 refine⟨fun h=>?_,hd,hp⟩
 unfold dV at h⊢
 split at h
 ·omega
 rename_i h1
 split at h
 ·omega
 rename_i h2
 have h2':cO l.field true=0:=by omega
 split at h
 ·omega
 rename_i h3
 split at h
 ·omega
 rename_i h4
 rw[if_neg h1,if_neg (by simp[Fb h2' hf ht]),show rW ⟨fB l.field t,l.rate,l.box,l.notes⟩=rW l from rfl,if_neg h3,hp]
 rw[if_neg h4]
theorem GM {l:ax} {t:yB} (hf:fC (fB l.field t)=0) (ht:aG (fB l.field t) []=aG l.field []) (p:Int->bK->bK):
 jG p ⟨fB l.field t,l.rate,l.box,l.notes⟩ (bz ⟨fB l.field t,l.rate,l.box,l.notes⟩)=jG p l (bz l):=by
 obtain⟨_,h2,_⟩:=Eo hf ht
 rw[h2]
 rfl
theorem Ue {f:aO} {t:yB} (ht:aG (fB f t) []=aG f []):lu (fB f t)=lu f:=by
 unfold lu
 rw[ht]
 rfl
theorem PQ {l:ax} {t:yB} (h:bC l true=0) (hf:fC (fB l.field t)=0) (ht:aG (fB l.field t) []=aG l.field []):bC ⟨fB l.field t,l.rate,l.box,l.notes⟩ true=0:=by
 obtain⟨h1,_,h3⟩:=Eo hf ht
 unfold bC at h⊢
 split at h
 ·omega
 rename_i h0
 rw[if_neg (by simp)] at h
 rw[if_neg (by have:=h1 (by omega);omega),if_neg (by simp),h3]
 exact h
theorem Us {l:ax} (h:dV l=0):bC l true=0∨bC l true=11:=by
 unfold bC
 rw[if_neg (by omega),if_neg (by simp)]
 split
 ·exact .inr rfl
 ·exact .inl rfl
theorem Pq (f:aO):(lu f).length=f.ai.toNat:=by simp[lu]
def xY (k:Nat) (p:bK):Bytes:=lW gB.note.word [k,p.1.toNat,p.2.toNat]
def qN (k:Nat) (n:Int) (d:bK):Bytes:=lW gB.tally.word [k,0,(n-1).toNat,d.1.toNat,d.2.toNat]
theorem aau {s:gV} (hG:Good s) (hS:Ja s) (ha:bC s.led true=0) (hn:s.led.notes.length<=4) (ht:s.led.field.ae.length<=4) {k:Nat} (hk:k<2) {p d:bK}
 (hp:p=(jG kQ s.led (bz s.led)).getD k (0,0)) (hd:d=(lu s.led.field).getD k (0,0)):
 ((0<=p.1/\p.1<=p.2/\p.2<=2000)/\(0<=d.1/\d.1<=d.2/\d.2<=5))/\
 ∃s1 s2,oK aJ s (xY k p)=(s1,0)/\oK aJ s1 (qN k s.led.field.rows d)=(s2,0)/\cO s2.led.field true=0/\lu s2.led.field=lu s.led.field/\bC s2.led true=0/\jG iR s2.led (bz s2.led)=jG iR s.led (bz s.led):=by
 have hw:=hG.ai
 have hr:=hG.rows
 have hkw:k<s.led.field.ai.toNat:=by rw[hw];exact hk
 obtain⟨n1,n2,n3,n4⟩:=Oh ha hn hkw hp
 obtain⟨t1,t2,t3⟩:=QR hS.field ht hkw (by omega) hd
 have td5:d.2<=5:=by omega
 refine⟨⟨n4,t3.1,t3.2.1,td5⟩,jl s (s.led.notes++[((k:Int),p)]),jw (jl s (s.led.notes++[((k:Int),p)])) (s.led.field.ae++[((k:Int),0,s.led.field.rows-1,d)]),?_,?_,?_,?_,?_,?_⟩
 ·have e1:((p.1.toNat:Nat):Int)=p.1:=by omega
  have e2:((p.2.toNat:Nat):Int)=p.2:=by omega
  refine Ns (c:= .note) (n:=[(k:Int),p.1,p.2]) ?_ ?_ ?_
  ·have:=zi .note [k,p.1.toNat,p.2.toNat] rfl (by intro x hx;simp at hx;omega)
   rw[xY,this,List.map_cons,List.map_cons,List.map_cons,List.map_nil,e1,e2]
  ·show(if s.led.field.ai<=(k:Int) then _ else if wW p.1 p.2 2000=false then _ else if 5<=s.led.notes.length then _ else _)=_
   rw[if_neg (by omega),if_neg (by unfold wW;simp;omega),if_neg (by omega)]
   rfl
  ·exact⟨hS.field,n1,hS.heap,hS.ask,hS.keeps,hS.bG,hS.acp⟩
 ·have e0:(((s.led.field.rows-1).toNat:Nat):Int)=s.led.field.rows-1:=by omega
  have e1:((d.1.toNat:Nat):Int)=d.1:=by omega
  have e2:((d.2.toNat:Nat):Int)=d.2:=by omega
  refine Ns (c:= .tally) (n:=[(k:Int),0,s.led.field.rows-1,d.1,d.2]) ?_ ?_ ?_
  ·have:=zi .tally [k,0,(s.led.field.rows-1).toNat,d.1.toNat,d.2.toNat] rfl (by intro x hx;simp at hx;omega)
   rw[qN,this,List.map_cons,List.map_cons,List.map_cons,List.map_cons,List.map_cons,List.map_nil,e0,e1,e2]
   rfl
  ·show(if s.led.field.ai<=(k:Int) then _ else if s.led.field.rows<=0∨s.led.field.rows<=s.led.field.rows-1 then _ else if s.led.field.rows-1<0 then _ else if wW d.1 d.2 s.led.field.rows=false then _ else if 5<=s.led.field.ae.length then _ else _)=_
   rw[if_neg (by omega),if_neg (by omega),if_neg (by omega),if_neg (by unfold wW;simp;omega),if_neg (by omega)]
   rfl
  ·exact⟨Fb hS.field t1 t2,(Eo (l:=wH s.led ((k:Int),p)) t1 t2).1 n1,hS.heap,hS.ask,hS.keeps,hS.bG,hS.acp⟩
 ·exact Fb hS.field t1 t2
 ·exact Ue t2
 ·exact PQ (l:=wH s.led ((k:Int),p)) n2 t1 t2
 ·exact(GM (l:=wH s.led ((k:Int),p)) t1 t2 iR).trans n3
end Go.Proofs.YtabpkkbiioihaaaGreatDoor.Bk
end
section
namespace Go.Proofs.YtabpkkbiioihaaaGreatDoor.Bk
open Go.RowKit Go.RG Go.SL Go.Shelf gZ Go.TB Go.Proofs.YtabpkkbiioihaaaGreatDoor.xH
theorem Kv (ls:List Bytes) (v:Value) (w:World) (hv:gI w v ls):Calls Tryz.prog 12 #[v] w (PV (iv (eY ls)) w):=by
 have hlen:=hv.len
 obtain⟨o,c,rfl⟩:=aB.open hv
 have HV:=Lib.hid hv
 clear hv
 by_cases h40:40<ls.length
 ·have afg:(40:Int)<ls.length:=by omega
  have HR:Hid (eY ls=3):=Lib.hid (by unfold eY;rw[if_pos (.inl h40)])
  go_enter Tryz.func12,Tryz.ntmps12
  go_wp2_with fail
  go_returns
  exact⟨by rw[HR.out];simp,Below.refl _ _⟩
 ·have afg: ¬(40:Int)<ls.length:=by omega
  go_enter Tryz.func12,Tryz.ntmps12
  go_wp2_with fail
  go_loopw [3] (fun i wr=> ∃k:Nat,k<=ls.length/\i= .int .i64 k/\(∀j (h:j<ls.length),j<k->ls[j].length<=60)/\Below w.heap.size w wr) (fun i _=>ls.length-(intOf i).toNat)
  case atStart=>exact⟨0,Nat.zero_le _,rfl,fun j _ hj=>by omega,Below.refl _ _⟩
  case round=>
   obtain⟨k,hk,rfl,hno,hB⟩:=hrel
   by_cases hlt:k<ls.length
   ·obtain⟨b,off,rfl,hb,hc0⟩:=gI.cell (aB.below HV.out hB (Nat.le_refl _)) hlt
    have HN:=Lib.hid hno
    have HB:=Lib.hid hB
    have HK:=Lib.hid (fun h=>hno k hlt h)
    obtain⟨x,hx⟩: ∃x,ls[k]=x:=⟨_,rfl⟩
    rw[hx] at hc0
    have hs:(dW x).size=x.length:=mP x
    have HX:=Lib.hid hx
    clear hno hB hx
    by_cases h60:x.length<=60
    ·have Zc: ¬(60:Int)<x.length:=by omega
     go_wp2_with fail
     go_roundw
     case rel=>exact⟨k+1,by omega,by go_num,fun j h hj=>(by by_cases e:j=k;(subst e;rw[HX.out];exact h60);exact HN.out j h (by omega)),HB.out⟩
     case measure=>simp[intOf];omega
    ·have Zc:(60:Int)<x.length:=by omega
     go_wp2_with fail
     go_returns
     refine⟨?_,HB.out⟩
     have:eY ls=3:=by
      unfold eY
      rw[if_pos (.inr (List.any_eq_true.2 ⟨x,by rw[<-HX.out];exact List.getElem_mem _,by simp;omega⟩))]
     rw[this]
     simp
   ·have hkl:k=ls.length:=by omega
    have HN:=Lib.hid hno
    have HB:=Lib.hid hB
    clear hno hB
    go_wp2_with fail
    go_returns
    refine⟨?_,HB.out⟩
    have:eY ls=0:=by
     unfold eY
     rw[if_neg]
     simp only[not_or,Bool.not_eq_true]
     refine⟨h40,List.any_eq_false.2 fun x hx=>?_⟩
     obtain⟨j,hj,rfl⟩:=List.getElem_of_mem hx
     have:=HN.out j hj (by omega)
     simp;omega
    rw[this]
    simp
def BJ (ls:List Bytes):Bool:=decide (ls.length<=45)&&ls.all fun x=>decide (x.length<=80)
theorem oP {ls:List Bytes}:BJ ls=true↔ls.length<=45/\ ∀x∈ls,x.length<=80:=by
 unfold BJ
 rw[Bool.and_eq_true,decide_eq_true_eq,List.all_eq_true]
 exact⟨fun h=>⟨h.1,fun x hx=>of_decide_eq_true (h.2 x hx)⟩,fun h=>⟨h.1,fun x hx=>decide_eq_true (h.2 x hx)⟩⟩
theorem UD (ls:List Bytes) (v:Value) (w:World) (hv:gI w v ls):Calls Tryz.prog 11 #[v] w (PV (.bool (BJ ls)) w):=by
 have hlen:=hv.len
 obtain⟨o,c,rfl⟩:=aB.open hv
 have HV:=Lib.hid hv
 clear hv
 obtain⟨q,hq⟩: ∃q,BJ ls=q:=⟨_,rfl⟩
 rw[hq]
 have HQ:=Lib.hid hq
 clear hq
 go_enter Tryz.func11,Tryz.ntmps11
 go_wp2_with fail
 go_loopw [3] (fun i wr=> ∃k:Nat,k<=ls.length/\k<=46/\i= .int .i64 k/\(∀j (h:j<ls.length),j<k->ls[j].length<=80)/\Below w.heap.size w wr) (fun i _=>ls.length-(intOf i).toNat)
 case atStart=>exact⟨0,Nat.zero_le _,Nat.zero_le _,rfl,fun j _ hj=>by omega,Below.refl _ _⟩
 case round=>
  obtain⟨k,hk,h46,rfl,hno,hB⟩:=hrel
  have HB:=Lib.hid hB
  have HN:=Lib.hid hno
  by_cases hlt:k<ls.length
  ·by_cases aiA:k<46
   ·have abn:(k:Int)<46:=by omega
    obtain⟨b,off,rfl,hb,hc0⟩:=gI.cell (aB.below HV.out hB (Nat.le_refl _)) hlt
    obtain⟨x,hx⟩: ∃x,ls[k]=x:=⟨_,rfl⟩
    rw[hx] at hc0
    have hs:(dW x).size=x.length:=mP x
    have HX:=Lib.hid hx
    clear hno hB hx
    by_cases h60:x.length<=80
    ·have Zc: ¬(80:Int)<x.length:=by omega
     go_wp2_with fail
     go_roundw
     case rel=>exact⟨k+1,by omega,by omega,by go_num,fun j h hj=>(by by_cases e:j=k;(subst e;rw[HX.out];exact h60);exact HN.out j h (by omega)),HB.out⟩
     case measure=>simp[intOf];omega
    ·have Zc:(80:Int)<x.length:=by omega
     have hq0:q=false:=by
      rw[<-HQ.out,Bool.eq_false_iff]
      intro h
      exact h60 ((oP.1 h).2 x (by rw[<-HX.out];exact List.getElem_mem _))
     subst hq0
     go_wp2_with fail
     go_returns
     exact⟨by simp,HB.out⟩
   ·have abn: ¬(k:Int)<46:=by omega
    have hq0:q=false:=by
     rw[<-HQ.out,Bool.eq_false_iff]
     intro h
     have:=(oP.1 h).1
     omega
    have h45: ¬(ls.length:Int)<=45:=by omega
    subst hq0
    clear hno hB
    go_wp2_with fail
    go_returns
    exact⟨by simp,HB.out⟩
  ·have hkl:k=ls.length:=by omega
   clear hno hB
   by_cases h45:ls.length<=45
   ·have aff:(ls.length:Int)<=45:=by omega
    have hq1:q=true:=by
     rw[<-HQ.out]
     refine oP.2 ⟨h45,fun x hx=>?_⟩
     obtain⟨j,hj,rfl⟩:=List.getElem_of_mem hx
     exact HN.out j hj (by omega)
    subst hq1
    go_wp2_with fail
    go_returns
    exact⟨by simp,HB.out⟩
   ·have aff: ¬(ls.length:Int)<=45:=by omega
    have hq0:q=false:=by
     rw[<-HQ.out,Bool.eq_false_iff]
     intro h
     exact h45 (oP.1 h).1
    subst hq0
    go_wp2_with fail
    go_returns
    exact⟨by simp,HB.out⟩
theorem uZ: ∀l:Bytes,aS (l++[32])=aS l++[[]]:=by
 intro l
 induction l with
 |nil=>rfl
 |cons c l ih=>
  rw[List.cons_append,aS,aS,ih]
  split
  ·rfl
  ·cases hw:aS l with
   |nil=>exact absurd hw (iP l)
   |cons x y=>rfl
theorem FK {c:UInt8} (hc:c≠32): ∀(l:Bytes) (A:List Bytes) (x:Bytes),aS l=A++[x]->aS (l++[c])=A++[x++[c]]:=by
 intro l
 induction l with
 |nil=>
  intro A x h
  have h1:A=[]/\x=[]:=by
   cases A with
   |nil=>simpa [aS] using h
   |cons a A=>simp[aS] at h
  obtain⟨rfl,rfl⟩:=h1
  show aS [c]=[[c]]
  simp[aS,hc]
 |cons d l ih=>
  intro A x h
  rw[List.cons_append,aS]
  rw[aS] at h
  split at h
  ·rename_i hd
   rw[if_pos hd]
   cases A with
   |nil=>
    simp only[List.nil_append,List.cons.injEq] at h
    exact absurd h.2 (iP l)
   |cons a A=>
    simp only[List.cons_append,List.cons.injEq] at h
    rw[ih A x h.2, <-h.1]
    rfl
  ·rename_i hd
   rw[if_neg hd]
   cases hw:aS l with
   |nil=>exact absurd hw (iP l)
   |cons y ys=>
    rw[hw] at h
    simp only[List.headD_cons,List.tail_cons] at h
    cases A with
    |nil=>
     simp only[List.nil_append,List.cons.injEq] at h
     obtain⟨rfl,hys⟩:=h
     rw[ih [] y (by rw[hw,hys];rfl)]
     rfl
    |cons a A=>
     simp only[List.cons_append,List.cons.injEq] at h
     obtain⟨rfl,hys⟩:=h
     rw[ih (y::A) x (by rw[hw,hys];rfl)]
     rfl
theorem xK:fD Tryz.prog 22 9 (.string ⟨#[]⟩) 1 16:=⟨Tryz.underlying22,by kernel_rfl,rfl,by omega⟩
theorem MP (s:ByteArray): ∀u∈[Value.string s],u.oneCell'=true:=fun u hu=>by obtain rfl:=List.mem_singleton.1 hu;rfl
def WT (ps:List Bytes) (w:World) (e:Ending) (w':World):Prop:= ∃v,e= .returned v/\w'.ownsRow w.heap.size 9 1 v ps.length (bT ps)/\Below w.heap.size w w'
theorem yP: ∀l:Bytes,(aS l).length<=l.length+1:=by
 intro l
 induction l with
 |nil=>simp[aS]
 |cons c l ih=>
  rw[aS]
  split
  ·simpa using ih
  ·cases hw:aS l with
   |nil=>exact absurd hw (iP l)
   |cons x y=>rw[hw] at ih;simp at ih⊢;omega
theorem yZ (l:Bytes) (w:World) (hl:l.length<=1000):Calls Tryz.prog 24 #[.string (dW l)] w (WT (aS l) w):=by
 have hsz:=mP l
 have hcut: ∀(a b:Nat),(dW l).extract a b=dW ((l.take b).drop a):=fun a b=>Un l a b
 go_enter Tryz.func24,Tryz.ntmps24
 go_wp2_with fail
 go_loopw [3,4,5] (fun v f i wr=> ∃(i' f':Nat) (out:List Bytes) (o:Option Addr) (c:Nat),i'<=l.length/\f'<=i'/\i= .int .i64 i'/\f= .int .i64 f'/\v= .slice o out.length c/\aS (l.take i')=out++[(l.take i').drop f']/\
  wr.ownsRow w.heap.size 9 1 (.slice o out.length c) out.length (bT out)/\Below w.heap.size w wr) (fun _ _ i _=>l.length-(intOf i).toNat)
 case atStart=>exact⟨0,0,[],none,0,Nat.zero_le _,Nat.le_refl _,rfl,rfl,rfl,rfl,⟨rfl,.inl ⟨rfl,rfl⟩⟩,Below.refl _ _⟩
 case round=>
  obtain⟨i,f,out,o,c,hi,hf,rfl,rfl,rfl,hw,ho,hB⟩:=hrel
  have hol:out.length<=1001:=by
   have:=yP (l.take i)
   rw[hw] at this
   simp at this
   omega
  have HX:=Lib.hid (And.intro hw (And.intro ho hB))
  have hsB:=hB.size
  clear hw ho hB
  by_cases hlt:i<l.length
  ·obtain⟨x,hx⟩: ∃x,l[i]=x:=⟨_,rfl⟩
   have hgx:(dW l)[i]'(by rw[hsz];exact hlt)=x:=hx
   have htk:l.take (i+1)=l.take i++[x]:=by rw[List.take_succ_eq_append_getElem hlt,hx]
   have Jf:=Lib.hid htk
   clear htk hx
   by_cases h32:x=32
   ·subst h32
    go_wp2_with (at_builtin;go_loud (refine bQ rfl _ _ xK rfl w.heap.size (.slice o out.length c) out.length (bT out) rfl (ah (Ms:=[]) HX.out.2.1 (Ext.of_below (af (Below.refl _ _) _)) (by simp)) (.slice (some ⟨wr.heap.size,0,none⟩) 1 1) 1 [.string (dW ((l.take i).drop f))] rfl (aB.of_block 1 1 (ag _ _) rfl (by decide)) (MP _) (by omega) (by omega) (by simp;omega) ?_))
    intro v' Wc hown hgr hcase
    obtain⟨UZ,Og,rfl⟩:=aK hown
    have hwB:Below wr.heap.size wr (wr.alloc (.cells #[.string (dW ((l.take i).drop f))] 9)):=af (Below.refl _ _) _
    have HY:=Lib.hid (And.intro hown (Below.grown (aH HX.out.2.2 hwB) hgr (by have:=hwB.size;omega) (fun g e=>(aZ HX.out.2.1 g e).1)))
    clear hown hgr hcase hwB
    go_wp2_with fail
    go_roundw
    case rel=>
     refine⟨i+1,i+1,out++[(l.take i).drop f],UZ,Og,by omega,by omega,by go_num,by go_num,by simp,?_,?_,HY.out.2⟩
     ·rw[Jf.out,uZ,HX.out.1]
      simp
      omega
     ·have:=HY.out.1
      simpa [bT] using this
    case measure=>simp[intOf];omega
   ·have hne: ¬((x.toNat:Int)=32):=by
     intro h
     exact h32 (UInt8.toNat_inj.1 (by rw[show(32:UInt8).toNat=32 from rfl];omega))
    go_wp2_with fail
    go_roundw
    case rel=>
     refine⟨i+1,f,out,o,c,by omega,by omega,by go_num,rfl,rfl,?_,HX.out.2.1,HX.out.2.2⟩
     rw[Jf.out,FK h32 _ out ((l.take i).drop f) HX.out.1]
     congr 2
     rw[List.drop_append_of_le_length (by simp;omega)]
    case measure=>simp[intOf];omega
  ·have hil:i=l.length:=by omega
   subst hil
   have HW:=Lib.hid HX.out.1
   rw[List.take_length] at HW
   have HL:=Lib.hid (show(l.take l.length).drop f=l.drop f by rw[List.take_length])
   go_wp2_with (at_builtin;go_loud (refine bQ rfl _ _ xK rfl w.heap.size (.slice o out.length c) out.length (bT out) rfl (ah (Ms:=[]) HX.out.2.1 (Ext.of_below (af (Below.refl _ _) _)) (by simp)) (.slice (some ⟨wr.heap.size,0,none⟩) 1 1) 1 [.string (dW (l.drop f))] (by rfl) (aB.of_block 1 1 (ag _ _) rfl (by decide)) (MP _) (by omega) (by omega) (by simp;omega) ?_))
   intro v' Wc hown hgr hcase
   obtain⟨UZ,Og,rfl⟩:=aK hown
   have hwB:Below wr.heap.size wr (wr.alloc (.cells #[.string (dW (l.drop f))] 9)):=af (Below.refl _ _) _
   have HY:=Lib.hid (And.intro hown (Below.grown (aH HX.out.2.2 hwB) hgr (by have:=hwB.size;omega) (fun g e=>(aZ HX.out.2.1 g e).1)))
   clear hown hgr hcase hwB
   go_wp2_with fail
   go_returns
   refine⟨.slice UZ (out.length+1) Og,by simp,?_,HY.out.2⟩
   rw[HW.out]
   have:=HY.out.1
   simpa [bT] using this
theorem BI {s:Bytes} (h:s.all eH=true) (hl:s.length<=4):0<=kL s/\kL s<=9999:=by
 have:=Dx s 0 (by omega) h
 have h4:(10:Int)^s.length<=10000:=by
  match hs:s.length,hl with
  |0,_=>decide
  |1,_=>decide
  |2,_=>decide
  |3,_=>decide
  |4,_=>decide
 simp only[Int.zero_mul,Int.zero_add,Int.one_mul] at this
 unfold kL
 omega
theorem I9 {s:Bytes} {c:UInt8}:(s++[c]).all eH=(s.all eH&&eH c):=by simp
theorem vJ {l:Bytes} {i:Nat} (hi:i<l.length) (h:eH l[i]=false):jb l=none:=by
 unfold jb
 rw[if_neg]
 intro hf
 unfold um at hf
 simp only[Bool.and_eq_true] at hf
 have:=List.all_eq_true.1 hf.2 l[i] (List.getElem_mem _)
 rw[h] at this
 cases this
theorem Nh {l:Bytes} (h:0<l.length):l.headD 0=l[0]:=by cases l with|nil=>exact absurd h (by simp)|cons a t=>rfl
theorem RJ {k:Nat} (h: ¬k<48) (h2:k<256):IntKind.u8.wrap ((k:Int)-48)=(k:Int)-48:=by
 have hb:(2:Int)^IntKind.u8.bits=256:=by decide
 simp only[IntKind.wrap,hb,show IntKind.u8.signed=false from rfl,Bool.false_and,Bool.false_eq_true,if_false];omega
theorem MR {n:Int} {k:Nat} (h0:0<=n) (h1:n<=9999) (h: ¬k<48) (h2:k<256):wrap64 (10*n+((k:Int)-48))=10*n+((k:Int)-48):=by unfold wrap64;omega
def XL (l:Bytes) (w:World):Ending->World->Prop:=PV (.tuple #[iv ((jb l).getD 0),.bool (jb l).isSome]) w
theorem F8 (l:Bytes) (w:World) (hl:l.length<=1000):Calls Tryz.prog 38 #[.string (dW l)] w (XL l w):=by
 have hsz:=mP l
 unfold XL
 obtain⟨q,hq⟩: ∃q,jb l=q:=⟨_,rfl⟩
 rw[hq]
 have HQ:=Lib.hid hq
 clear hq
 go_enter Tryz.func38,Tryz.ntmps38
 by_cases h1:l.length<1
 ·have h1':(l.length:Int)<1:=by omega
  obtain rfl:q=none:=by rw[<-HQ.out];unfold jb um;rw[if_neg];simp;omega
  go_wp2_with fail
  go_returns
  exact⟨by simp,Below.refl _ _⟩
 have h1': ¬(l.length:Int)<1:=by omega
 by_cases h4:4<l.length
 ·have h4':(4:Int)<l.length:=by omega
  obtain rfl:q=none:=by rw[<-HQ.out];unfold jb um;rw[if_neg];simp;omega
  go_wp2_with fail
  go_returns
  exact⟨by simp,Below.refl _ _⟩
 have h4': ¬(4:Int)<l.length:=by omega
 have h0:0<l.length:=by omega
 obtain⟨c,hc⟩: ∃c,l[0]=c:=⟨_,rfl⟩
 have hc0:(dW l)[0]'(by rw[hsz];exact h0)=c:=hc
 by_cases hz:c=48/\1<l.length
 ·obtain⟨rfl,hl1⟩:=hz
  have aez:(1:Int)<l.length:=by omega
  obtain rfl:q=none:=by
   rw[<-HQ.out]
   unfold jb um
   rw[if_neg]
   intro hf
   simp only[Bool.and_eq_true,Bool.or_eq_true,decide_eq_true_eq] at hf
   rw[Nh h0,hc] at hf
   rcases hf.1.2 with h|h
   ·exact h rfl
   ·omega
  go_wp2_with fail
  go_returns
  exact⟨by simp,Below.refl _ _⟩
 have HF:Hid (l.all eH=true->jb l=some (kL l)):=Lib.hid fun h=>by
  unfold jb um
  rw[if_pos]
  rw[Nh h0,hc,h]
  simp only[Bool.and_eq_true,Bool.or_eq_true,decide_eq_true_eq,and_true]
  refine⟨⟨by omega,by omega⟩,?_⟩
  by_cases h48:c=48
  ·exact .inr (Nat.le_antisymm (Nat.le_of_not_lt fun h=>hz ⟨h48,h⟩) h0)
  ·exact .inl h48
 by_cases h48:c=48
 ·subst h48
  have aez: ¬(1:Int)<l.length:=fun h=>hz ⟨rfl,Int.ofNat_lt.1 h⟩
  clear hz hc
  go_wp2_with fail
  go_loopw [4,5] (fun n u wr=> ∃i:Nat,i<=l.length/\u= .int .i64 i/\(l.take i).all eH=true/\n= .int .i64 (kL (l.take i))/\Below w.heap.size w wr) (fun _ u _=>l.length-(intOf u).toNat)
  case atStart=>exact⟨0,Nat.zero_le _,rfl,rfl,rfl,Below.refl _ _⟩
  case round=>
   obtain⟨i,hi,rfl,hd,rfl,hb⟩:=hrel
   have hvs:=BI hd (by simp;omega)
   by_cases hlt:i<l.length
   ·obtain⟨x,hx⟩: ∃x,l[i]=x:=⟨_,rfl⟩
    have hgx:(dW l)[i]'(by rw[hsz];exact hlt)=x:=hx
    have htk:l.take (i+1)=l.take i++[x]:=by rw[List.take_succ_eq_append_getElem hlt,hx]
    have Jf:=Lib.hid htk
    have ZM:=Lib.hid (And.intro hd hx)
    have hxl:=x.toNat_lt
    clear htk hd hx
    obtain⟨n,hn⟩: ∃n,kL (l.take i)=n:=⟨_,rfl⟩
    have HNV:=Lib.hid hn
    rw[hn] at hvs⊢
    clear hn
    by_cases hlo:x.toNat<48
    ·have YJ:(x.toNat:Int)<48:=by omega
     obtain rfl:q=none:=by rw[<-HQ.out];exact vJ hlt (by rw[ZM.out.2];unfold eH;simp;omega)
     go_wp2_with fail
     go_returns
     exact⟨by simp,hb⟩
    ·have YJ: ¬(x.toNat:Int)<48:=by omega
     by_cases hhi:57<x.toNat
     ·have YP:(57:Int)<x.toNat:=by omega
      obtain rfl:q=none:=by rw[<-HQ.out];exact vJ hlt (by rw[ZM.out.2];unfold eH;simp;omega)
      go_wp2_with fail
      go_returns
      exact⟨by simp,hb⟩
     ·have YP: ¬(57:Int)<x.toNat:=by omega
      have hw8:IntKind.u8.wrap ((x.toNat:Int)-48)=(x.toNat:Int)-48:=RJ hlo hxl
      have hw64:wrap64 (10*n+((x.toNat:Int)-48))=10*n+((x.toNat:Int)-48):=MR hvs.1 hvs.2 hlo hxl
      have HV2:Hid (kL (l.take (i+1))=10*n+((x.toNat:Int)-48)):=Lib.hid (by rw[Jf.out,sF,HNV.out])
      have HD2:Hid ((l.take (i+1)).all eH=true):=Lib.hid (by rw[Jf.out,I9,ZM.out.1];unfold eH;simp;omega)
      go_wp2_with fail
      go_roundw
      case rel=>exact⟨i+1,by omega,by go_num,HD2.out,by rw[HV2.out],hb⟩
      case measure=>simp[intOf];omega
   ·have hil:i=l.length:=by omega
    subst hil
    rw[List.take_length] at hd hvs⊢
    obtain rfl:q=some (kL l):=by rw[<-HQ.out,HF.out hd]
    generalize kL l=n at*
    clear hd
    go_wp2_with fail
    go_returns
    exact⟨by simp,hb⟩
 ·have hne: ¬((c.toNat:Int)=48):=by
   intro h
   exact h48 (UInt8.toNat_inj.1 (by rw[show(48:UInt8).toNat=48 from rfl];omega))
  clear hz hc
  go_wp2_with fail
  go_loopw [4,5] (fun n u wr=> ∃i:Nat,i<=l.length/\u= .int .i64 i/\(l.take i).all eH=true/\n= .int .i64 (kL (l.take i))/\Below w.heap.size w wr) (fun _ u _=>l.length-(intOf u).toNat)
  case atStart=>exact⟨0,Nat.zero_le _,rfl,rfl,rfl,Below.refl _ _⟩
  case round=>
   obtain⟨i,hi,rfl,hd,rfl,hb⟩:=hrel
   have hvs:=BI hd (by simp;omega)
   by_cases hlt:i<l.length
   ·obtain⟨x,hx⟩: ∃x,l[i]=x:=⟨_,rfl⟩
    have hgx:(dW l)[i]'(by rw[hsz];exact hlt)=x:=hx
    have htk:l.take (i+1)=l.take i++[x]:=by rw[List.take_succ_eq_append_getElem hlt,hx]
    have Jf:=Lib.hid htk
    have ZM:=Lib.hid (And.intro hd hx)
    have hxl:=x.toNat_lt
    clear htk hd hx
    obtain⟨n,hn⟩: ∃n,kL (l.take i)=n:=⟨_,rfl⟩
    have HNV:=Lib.hid hn
    rw[hn] at hvs⊢
    clear hn
    by_cases hlo:x.toNat<48
    ·have YJ:(x.toNat:Int)<48:=by omega
     obtain rfl:q=none:=by rw[<-HQ.out];exact vJ hlt (by rw[ZM.out.2];unfold eH;simp;omega)
     go_wp2_with fail
     go_returns
     exact⟨by simp,hb⟩
    ·have YJ: ¬(x.toNat:Int)<48:=by omega
     by_cases hhi:57<x.toNat
     ·have YP:(57:Int)<x.toNat:=by omega
      obtain rfl:q=none:=by rw[<-HQ.out];exact vJ hlt (by rw[ZM.out.2];unfold eH;simp;omega)
      go_wp2_with fail
      go_returns
      exact⟨by simp,hb⟩
     ·have YP: ¬(57:Int)<x.toNat:=by omega
      have hw8:IntKind.u8.wrap ((x.toNat:Int)-48)=(x.toNat:Int)-48:=RJ hlo hxl
      have hw64:wrap64 (10*n+((x.toNat:Int)-48))=10*n+((x.toNat:Int)-48):=MR hvs.1 hvs.2 hlo hxl
      have HV2:Hid (kL (l.take (i+1))=10*n+((x.toNat:Int)-48)):=Lib.hid (by rw[Jf.out,sF,HNV.out])
      have HD2:Hid ((l.take (i+1)).all eH=true):=Lib.hid (by rw[Jf.out,I9,ZM.out.1];unfold eH;simp;omega)
      go_wp2_with fail
      go_roundw
      case rel=>exact⟨i+1,by omega,by go_num,HD2.out,by rw[HV2.out],hb⟩
      case measure=>simp[intOf];omega
   ·have hil:i=l.length:=by omega
    subst hil
    rw[List.take_length] at hd hvs⊢
    obtain rfl:q=some (kL l):=by rw[<-HQ.out,HF.out hd]
    generalize kL l=n at*
    clear hd
    go_wp2_with fail
    go_returns
    exact⟨by simp,hb⟩
def qZ (l:Bytes):Int:=match nN l with|some c=>(c.many:Int)|none=> -1
theorem NZ (l:Bytes) (w:World):Calls Tryz.prog 37 #[.string (dW l)] w (PV (iv (qZ l)) w):=by
 unfold qZ
 cases hc:nN l with
 |some c=>
  obtain rfl:=zZ hc
  clear hc
  cases c <;>
  ·show Calls _ _ _ _ (PV _ w)
   dsimp only[gB.word,gB.many]
   go_enter Tryz.func37,Tryz.ntmps37
   go_wp2_with fail
   go_returns
   exact⟨by simp,Below.refl _ _⟩
 |none=>
  have n0:(l==[114,111,119])=false:=beq_eq_false_iff_ne.2 (dE hc .row)
  have n1:(l==[108,101,102,116])=false:=beq_eq_false_iff_ne.2 (dE hc .left)
  have n2:(l==[116,97,108,108,121])=false:=beq_eq_false_iff_ne.2 (dE hc .tally)
  have n3:(l==[119,97,115,104])=false:=beq_eq_false_iff_ne.2 (dE hc .ve)
  have n4:(l==[117,110,116,97,108,108,121])=false:=beq_eq_false_iff_ne.2 (dE hc .jy)
  have n5:(l==[114,97,116,101])=false:=beq_eq_false_iff_ne.2 (dE hc .rate)
  have n6:(l==[98,111,120])=false:=beq_eq_false_iff_ne.2 (dE hc .box)
  have n7:(l==[110,111,116,101])=false:=beq_eq_false_iff_ne.2 (dE hc .note)
  have n8:(l==[118,111,105,100])=false:=beq_eq_false_iff_ne.2 (dE hc .void)
  have n9:(l==[115,116,97,114,116])=false:=beq_eq_false_iff_ne.2 (dE hc .start)
  have n10:(l==[119,101,116])=false:=beq_eq_false_iff_ne.2 (dE hc .bg)
  have n11:(l==[116,117,114,110])=false:=beq_eq_false_iff_ne.2 (dE hc .turn)
  have n12:(l==[117,110,116,117,114,110])=false:=beq_eq_false_iff_ne.2 (dE hc .kz)
  have n13:(l==[105,114,111,110])=false:=beq_eq_false_iff_ne.2 (dE hc .vP)
  have n14:(l==[117,110,114,101,97,100])=false:=beq_eq_false_iff_ne.2 (dE hc .unread)
  have n15:(l==[104,101,97,112])=false:=beq_eq_false_iff_ne.2 (dE hc .heap)
  have n16:(l==[115,116,114,111,110,103])=false:=beq_eq_false_iff_ne.2 (dE hc .strong)
  have n17:(l==[99,97,115,107])=false:=beq_eq_false_iff_ne.2 (dE hc .kN)
  have n18:(l==[102,105,108,108])=false:=beq_eq_false_iff_ne.2 (dE hc .fill)
  have n19:(l==[116,114,121])=false:=beq_eq_false_iff_ne.2 (dE hc .vg)
  have n20:(l==[117,110,116,114,121])=false:=beq_eq_false_iff_ne.2 (dE hc .nY)
  clear hc
  show Calls _ _ _ _ (PV (iv (-1)) w)
  go_enter Tryz.func37,Tryz.ntmps37
  go_wp2_with fail
  go_returns
  exact⟨by simp,Below.refl _ _⟩
def Gv (m:Int) (ps:List Bytes):Option (List Int):=if m=(ps.length:Int) then iU ps else none
def numsOf (l:Bytes):Option (List Int):=Gv (qZ ((aS l).headD [])) (aS l).tail
theorem Kt {l:Bytes} (h:nN l=none):qZ l= -1:=by unfold qZ;rw[h]
theorem Kr {l:Bytes} {c:gB} (h:nN l=some c):qZ l=c.many:=by unfold qZ;rw[h]
theorem wZ (l:Bytes):numsOf l=(parse l).map (·.2):=by
 unfold numsOf parse
 generalize (aS l).headD []=a
 generalize (aS l).tail=ps
 cases hc:nN a with
 |none=>rw[Kt hc];unfold Gv;rw[if_neg (by omega)];rfl
 |some c=>
  rw[Kr hc,Option.bind_some]
  unfold Gv
  by_cases h:ps.length=c.many
  ·rw[if_pos h,if_pos (by omega)];cases iU ps <;>rfl
  ·rw[if_neg h,if_neg (by omega)];rfl
theorem RV (l:Bytes): -1<=qZ l/\qZ l<=5:=by
 unfold qZ
 cases hc:nN l with
 |none=>decide
 |some c=>cases c <;>decide
def acF (q:Option (List Int)) (w:World) (e:Ending) (w':World):Prop:=Below w.heap.size w w'/\ ∃v,e= .returned (.tuple #[v,.bool q.isSome])/\((q=none/\v= .slice none 0 0)∨ ∃n,q=some n/\w'.ownsRow w.heap.size 3 1 v n.length (intCells n))
theorem Ed (l:Bytes) (w:World) (hl:l.length<=1000):Calls Tryz.prog 25 #[.string (dW l)] w (acF (numsOf l) w):=by
 have HW:=Lib.hid (yZ l w hl)
 obtain⟨q,hq⟩: ∃q,numsOf l=q:=⟨_,rfl⟩
 rw[hq]
 unfold numsOf at hq
 have hwl:=yP l
 have hmem:=fun x (hx:x∈aS l)=>FN l x hx
 obtain⟨a,ps,hw⟩: ∃a ps,aS l=a::ps:=by
  cases h:aS l with
  |nil=>exact absurd h (iP l)
  |cons a ps=>exact⟨a,ps,rfl⟩
 rw[hw] at hq hwl hmem HW
 simp only[List.headD_cons,List.tail_cons,List.length_cons] at hq hwl
 obtain⟨m,hm0⟩: ∃m,qZ a=m:=⟨_,rfl⟩
 rw[hm0] at hq
 have afS:=Lib.hid hmem
 have hmb:=RV a
 have hma:=fun W=>NZ a W
 rw[hm0] at hmb hma
 have HMA:=Lib.hid hma
 have HQ:=Lib.hid hq
 clear hq hw hmem hma hm0
 go_enter Tryz.func25,Tryz.ntmps25
 go_wp2_with fail
 refine HW.out.mono ?_
 rintro e W1 ⟨v,rfl,how,hB⟩
 obtain⟨o,c,rfl⟩:=aK how
 have hs1:=hB.size
 have HB1:=Lib.hid hB
 have HO1:=Lib.hid (aB.dn how)
 simp only[List.length_cons] at HO1
 obtain⟨b,off,rfl,hb,hc0⟩:=gI.cell (l:=a::ps) HO1.out (k:=0) (by simp)
 simp only[List.getElem_cons_zero,Nat.add_zero] at hc0
 clear how hB
 go_wp2_with fail
 refine(HMA.out W1).mono ?_
 rintro e W2 ⟨rfl,hB⟩
 have hs2:=hB.size
 have HB2:=Lib.hid (aH HB1.out hB)
 have wQ:=Lib.hid (aB.below HO1.out hB (Nat.le_refl _))
 clear hc0 hB
 by_cases hm:m=(ps.length:Int)
 ·subst hm
  have qB:Hid (iU ps=q):=Lib.hid (by have:=HQ.out;unfold Gv at this;rwa [if_pos rfl] at this)
  have hm':(ps.length:Int)+1-1=(ps.length:Int):=by omega
  have hpl:ps.length<=1000:=by omega
  clear hmb
  go_wp2_with fail
  go_loopw [5,6] (fun v u wr=> ∃(j:Nat) (ns:List Int) (o5:Option Addr) (c5:Nat),j<=ps.length/\u= .int .i64 (j+1:Nat)/\v= .slice o5 j c5/\iU (ps.take j)=some ns/\wr.ownsRow W2.heap.size 3 1 (.slice o5 j c5) j (intCells ns)/\Below W2.heap.size W2 wr) (fun _ u _=>ps.length+1-(intOf u).toNat)
  case atStart=>exact⟨0,[],none,0,Nat.zero_le _,rfl,rfl,rfl,⟨rfl,.inl ⟨rfl,rfl⟩⟩,Below.refl _ _⟩
  case round=>
   obtain⟨j,ns,o5,c5,hj,rfl,rfl,hns,how,hB⟩:=hrel
   have hsB:=hB.size
   have HX:=Lib.hid (And.intro hns (And.intro how hB))
   by_cases hlt:j<ps.length
   ·obtain⟨b',off',he',hb',hc1⟩:=gI.cell (l:=a::ps) (aB.below wQ.out hB (Nat.le_refl _)) (k:=j+1) (by simp;omega)
    obtain⟨rfl,rfl⟩:b'=b/\off'=off:=by
     injection he' with h
     injection h with h1 h2
     exact⟨h1.symm,h2.symm⟩
    simp only[List.getElem_cons_succ] at hc1
    obtain⟨p,hp⟩: ∃p,ps[j]=p:=⟨_,rfl⟩
    rw[hp] at hc1
    have Yy:p.length<=1000:=by
     have:=afS.out p (by rw[<-hp];exact List.mem_cons_of_mem _ (List.getElem_mem _))
     omega
    have ZF:=Lib.hid (F8 p wr Yy)
    have Jf:Hid (ps.take (j+1)=ps.take j++[p]):=Lib.hid (by rw[List.take_succ_eq_append_getElem hlt,hp])
    have HP:Hid (ps[j]? =some p):=Lib.hid (by rw[List.getElem?_eq_getElem hlt,hp])
    have hgd:((j+1:Nat):Int)<(ps.length:Int)+1:=by omega
    clear hns how hB he' hp
    go_wp2_with fail
    refine ZF.out.mono ?_
    rintro e W4 ⟨rfl,hb4⟩
    have hs4:=hb4.size
    have HB4:=Lib.hid (aH HX.out.2.2 hb4)
    have Ql:=Lib.hid (ah (Ms:=[]) HX.out.2.1 (Ext.of_below hb4) (by simp))
    cases hnb:jb p with
    |none=>
     obtain rfl:q=none:=by rw[<-qB.out];exact Cm ps j p HP.out hnb
     clear hb4 hnb ZF hc1
     simp only[Option.isSome_none]
     go_wp2_with fail
     go_returns
     exact⟨aH HB2.out HB4.out,_,by simp,.inl ⟨rfl,rfl⟩⟩
    |some x=>
     have HN4:=Lib.hid hnb
     clear hb4 hnb ZF hc1
     simp only[Option.isSome_some,Option.getD_some]
     go_wp2_with (at_builtin;go_loud (refine bQ rfl _ _ qo rfl W2.heap.size (.slice o5 j c5) j (intCells ns) rfl (ah (Ms:=[]) Ql.out (Ext.of_below (af (Below.refl _ _) _)) (by simp)) (.slice (some ⟨W4.heap.size,0,none⟩) 1 1) 1 (intCells [x]) rfl (aB.of_block 1 1 (ag _ _) rfl (by decide)) (iT _) (by omega) (by omega) (by simp;omega) ?_))
     intro v' Wc hown hgr hcase
     obtain⟨UZ,Og,rfl⟩:=aK hown
     rw[<-Ez] at hown
     have hwB:Below W4.heap.size W4 (W4.alloc (.cells #[iv x] 3)):=af (Below.refl _ _) _
     have HY:=Lib.hid (And.intro hown (Below.grown (aH HB4.out hwB) hgr (by have:=hwB.size;omega) (fun g e=>(aZ Ql.out g e).1)))
     clear hown hgr hcase hwB
     go_wp2_with fail
     go_roundw
     case rel=>exact⟨j+1,ns++[x],UZ,Og,by omega,by go_num,rfl,by rw[Jf.out];exact zA _ _ _ _ HX.out.1 HN4.out,HY.out.1,HY.out.2⟩
     case measure=>simp[intOf];omega
   ·have hjl:j=ps.length:=by omega
    subst hjl
    rw[List.take_length] at hns
    obtain rfl:q=some ns:=by rw[<-qB.out,hns]
    have QC:=Lib.hid (Cj hns)
    have hgd: ¬((ps.length+1:Nat):Int)<(ps.length:Int)+1:=by omega
    clear hns how hB
    go_wp2_with fail
    go_returns
    exact⟨aH HB2.out HX.out.2.2,.slice o5 ps.length c5,by simp,.inr ⟨ns,rfl,by rw[QC.out];exact bH HX.out.2.1 HB2.out.size⟩⟩
 ·have hm': ¬(m=(ps.length:Int)+1-1):=by omega
  obtain rfl:q=none:=by have:=HQ.out;unfold Gv at this;rw[if_neg hm] at this;exact this.symm
  go_wp2_with fail
  go_returns
  exact⟨HB2.out,_,by simp,.inl ⟨rfl,rfl⟩⟩
theorem lt_mul (N a b:Int) (h0:0<=N) (h1:N<=1000) (h2:a<=b) (h3:b<=a+9):0<=N*(b-a+1)/\N*(b-a+1)<=10000:=by
 have h4:1<=b-a+1:=by omega
 have h5:b-a+1<=10:=by omega
 generalize b-a+1=d at*
 refine⟨Int.mul_nonneg h0 (by omega),?_⟩
 calc N*d<=1000*d:=Int.mul_le_mul_of_nonneg_right h1 (by omega)
  _<=1000*10:=by omega
theorem JX {l:Bytes} {n:List Int} (h:numsOf l=some n) (a:Bytes) (ha:(aS l).headD []=a):
 ((a==[114,111,119])=true/\(a==[114,97,116,101])=false/\(a==[115,116,97,114,116])=false/\(a==[119,101,116])=false/\(a==[104,101,97,112])=false/\(a==[115,116,114,111,110,103])=false)∨
 ((a==[114,111,119])=false/\(a==[114,97,116,101])=true/\(a==[115,116,97,114,116])=false/\(a==[119,101,116])=false/\(a==[104,101,97,112])=false/\(a==[115,116,114,111,110,103])=false/\n.length=1)∨
 ((a==[114,111,119])=false/\(a==[114,97,116,101])=false/\(a==[115,116,97,114,116])=false/\(a==[119,101,116])=false/\(a==[104,101,97,112])=false/\(a==[115,116,114,111,110,103])=false)∨
 ((a==[114,111,119])=false/\(a==[114,97,116,101])=false/\(a==[115,116,97,114,116])=true/\2<=n.length)∨
 ((a==[114,111,119])=false/\(a==[114,97,116,101])=false/\(a==[115,116,97,114,116])=false/\(a==[119,101,116])=true/\2<=n.length)∨
 ((a==[114,111,119])=false/\(a==[114,97,116,101])=false/\(a==[115,116,97,114,116])=false/\(a==[119,101,116])=false/\(a==[104,101,97,112])=true/\2<=n.length)∨
 ((a==[114,111,119])=false/\(a==[114,97,116,101])=false/\(a==[115,116,97,114,116])=false/\(a==[119,101,116])=false/\(a==[104,101,97,112])=false/\(a==[115,116,114,111,110,103])=true/\2<=n.length):=by
 rw[wZ] at h
 cases hp:parse l with
 |none=>rw[hp] at h;cases h
 |some cn=>
  obtain⟨c,m⟩:=cn
  rw[hp] at h
  obtain rfl:=Option.some.inj h
  obtain⟨h1,h2,_,_⟩:=nC hp
  rw[ha] at h1
  subst h1
  clear hp h ha
  cases c <;>simp only[gB.many,gB.word] at h2⊢ <;>first
   |exact .inl (by decide)
   |exact .inr (.inl ⟨by decide,by decide,by decide,by decide,by decide,by decide,h2⟩)
   |exact .inr (.inr (.inl (by decide)))
   |exact .inr (.inr (.inr (.inl ⟨by decide,by decide,by decide,by omega⟩)))
   |exact .inr (.inr (.inr (.inr (.inl ⟨by decide,by decide,by decide,by decide,by omega⟩))))
   |exact .inr (.inr (.inr (.inr (.inr (.inl ⟨by decide,by decide,by decide,by decide,by decide,by omega⟩)))))
   |exact .inr (.inr (.inr (.inr (.inr (.inr ⟨by decide,by decide,by decide,by decide,by decide,by decide,by omega⟩)))))
def acD (w:World) (e:Ending) (w':World):Prop:=Below w.heap.size w w'/\ ∃b,e= .returned (.bool b)
theorem Qg (ls:List Bytes) (v:Value) (w:World) (hv:gI w v ls) (hll:ls.length<=100) (hl: ∀x∈ls,x.length<=1000):Calls Tryz.prog 13 #[v] w (acD w):=by
 have hlen:=hv.len
 obtain⟨o,c,rfl⟩:=aB.open hv
 have HV:=Lib.hid hv
 have HL:=Lib.hid hl
 clear hv hl
 go_enter Tryz.func13,Tryz.ntmps13
 go_wp2_with fail
 go_loopw [3,4,5] (fun n r i wr=> ∃(k:Nat) (N R:Int),k<=ls.length/\i= .int .i64 k/\n= .int .i64 N/\r= .int .i64 R/\0<=N/\N<=10000/\0<=R/\R<=k/\Below w.heap.size w wr) (fun _ _ i _=>ls.length-(intOf i).toNat)
 case atStart=>exact⟨0,1,0,Nat.zero_le _,rfl,rfl,rfl,by omega,by omega,by omega,by omega,Below.refl _ _⟩
 case round=>
  obtain⟨k,N,R,hk,rfl,rfl,rfl,hN0,hN1,hR0,hR1,hB⟩:=hrel
  have HB:=Lib.hid hB
  by_cases hlt:k<ls.length
  ·obtain⟨b,off,rfl,hb,hc0⟩:=gI.cell (aB.below HV.out hB (Nat.le_refl _)) hlt
   obtain⟨x,hx⟩: ∃x,ls[k]=x:=⟨_,rfl⟩
   rw[hx] at hc0
   have hxl:x.length<=1000:=HL.out x (by rw[<-hx];exact List.getElem_mem _)
   have HW:=Lib.hid (fun W=>yZ x W hxl)
   have HNU:=Lib.hid (fun W=>Ed x W hxl)
   clear hB hx
   go_wp2_with fail
   refine(HW.out wr).mono ?_
   rintro e W2 ⟨v2,rfl,how,hB⟩
   obtain⟨o2,c2,rfl⟩:=aK how
   have hs2:=hB.size
   have aeR:=((aW hB).1 b (off+k) hb).trans hc0
   have HB2:=Lib.hid (aH HB.out hB)
   obtain⟨a,ps,hw⟩: ∃a ps,aS x=a::ps:=by
    cases h:aS x with
    |nil=>exact absurd h (iP x)
    |cons a ps=>exact⟨a,ps,rfl⟩
   have HHD:Hid ((aS x).headD []=a):=Lib.hid (by rw[hw];rfl)
   have wQ:=Lib.hid (aB.dn how)
   rw[hw] at wQ
   rw[hw,List.length_cons]
   simp only[List.length_cons] at wQ
   clear how hB hc0 hb hw HL
   go_wp2_with fail
   refine(HNU.out W2).mono ?_
   rintro e W3 ⟨hB3,v3,rfl,hv3⟩
   have hs3:=hB3.size
   have HB4:=Lib.hid (aH HB2.out hB3)
   have HO3:=Lib.hid (aB.below wQ.out hB3 (Nat.le_refl _))
   obtain⟨b2,ahX,rfl,hb2,hc3⟩:=gI.cell (l:=a::ps) HO3.out (k:=0) (by simp)
   simp only[List.getElem_cons_zero,Nat.add_zero] at hc3
   clear hB3 aeR
   rcases hv3 with⟨hq,rfl⟩|⟨ns,hq,how⟩
   ·rw[hq]
    clear hq
    simp only[Option.isSome_none]
    go_wp2_with fail
    go_roundw
    case rel=>exact⟨k+1,_,_,by omega,by go_num,rfl,rfl,by omega,by omega,by omega,by omega,HB4.out⟩
    case measure=>simp[intOf];omega
   ·have vT:=JX hq a HHD.out
    rw[hq]
    obtain⟨o3,c3,rfl⟩:=aK how
    have Ql:=Lib.hid (aB.dn how)
    have hbd: ∀y∈ns,0<=y/\y<=9999:=by
     rw[wZ] at hq
     cases hp:parse x with
     |none=>rw[hp] at hq;cases hq
     |some cn=>
      rw[hp] at hq
      obtain rfl:=Option.some.inj hq
      exact(nC (c:=cn.1) (n:=cn.2) hp).2.2.1
    have hnl:ns.length<=5:=by
     rw[wZ] at hq
     cases hp:parse x with
     |none=>rw[hp] at hq;cases hq
     |some cn=>
      rw[hp] at hq
      obtain rfl:=Option.some.inj hq
      have:=(nC (c:=cn.1) (n:=cn.2) hp).2.1
      rw[this]
      cases cn.1 <;>decide
    have Qq:=Lib.hid hbd
    clear hq how hbd
    simp only[Option.isSome_some]
    rcases vT with⟨g1,g2,g3,g4,g5,g6⟩|⟨g1,g2,g3,g4,g5,g6,gl⟩|⟨g1,g2,g3,g4,g5,g6⟩|⟨g1,g2,g3,gl⟩|⟨g1,g2,g3,g4,gl⟩|⟨g1,g2,g3,g4,g5,gl⟩|⟨g1,g2,g3,g4,g5,g6,gl⟩
    ·go_wp2_with fail
     go_roundw
     case rel=>exact⟨k+1,_,_,by omega,by go_num,rfl,rfl,by omega,by omega,by omega,by omega,HB4.out⟩
     case measure=>simp[intOf];omega
    ·obtain⟨y,rfl⟩: ∃y,ns=[y]:=by
      match ns,gl with
      |[y],_=>exact⟨y,rfl⟩
     obtain⟨b3,Gu,rfl,hb3,hc4⟩:=aN.cell (l:=[y]) Ql.out (k:=0) (by simp)
     simp only[List.getElem_cons_zero,Nat.add_zero] at hc4
     by_cases hy:(20:Int)<y
     ·by_cases hy5:y<=50
      ·go_wp2_with fail
       go_returns
       exact⟨HB4.out,_,rfl⟩
      ·go_wp2_with fail
       go_roundw
       case rel=>exact⟨k+1,_,_,by omega,by go_num,rfl,rfl,by omega,by omega,by omega,by omega,HB4.out⟩
       case measure=>simp[intOf];omega
     ·go_wp2_with fail
      go_roundw
      case rel=>exact⟨k+1,_,_,by omega,by go_num,rfl,rfl,by omega,by omega,by omega,by omega,HB4.out⟩
      case measure=>simp[intOf];omega
    ·go_wp2_with fail
     go_roundw
     case rel=>exact⟨k+1,_,_,by omega,by go_num,rfl,rfl,by omega,by omega,by omega,by omega,HB4.out⟩
     case measure=>simp[intOf];omega
    ·obtain⟨m,hm⟩: ∃m,ns.length=m+2:=⟨ns.length-2,by omega⟩
     obtain⟨b3,Gu,rfl,hb3,hc4⟩:=aN.cell (l:=ns) Ql.out (k:=m) (by omega)
     obtain⟨b9,J4,TI,_,hc5⟩:=aN.cell (l:=ns) Ql.out (k:=m+1) (by omega)
     obtain⟨rfl,rfl⟩:b9=b3/\J4=Gu:=by
      injection TI with h
      injection h with h1 h2
      exact⟨h1.symm,h2.symm⟩
     obtain⟨xa,hxa⟩: ∃y,ns[m]=y:=⟨_,rfl⟩
     obtain⟨xb,hxb⟩: ∃y,ns[m+1]=y:=⟨_,rfl⟩
     have YV:=Qq.out xa (by rw[<-hxa];exact List.getElem_mem _)
     have YU:=Qq.out xb (by rw[<-hxb];exact List.getElem_mem _)
     rw[hxa] at hc4
     rw[hxb] at hc5
     rw[hm]
     have hml:m<=1000:=by omega
     have e1:(m:Int)+2-2=m:=by omega
     have e2:(m:Int)+2-1=(m:Int)+1:=by omega
     clear hxa hxb hm TI gl
     go_wp2_with fail
     by_cases hab:xa<=xb
     ·by_cases hba:xb<=xa+9
      ·by_cases hN:N<=1000
       ·have hmul:=lt_mul N xa xb hN0 hN hab hba
        have hw64:wrap64 (N*(xb-xa+1))=N*(xb-xa+1):=IntWalk.wrap64_in _ ⟨by omega,by omega⟩
        go_region
        all_goals go_wp2_with fail
        all_goals go_roundw
        all_goals first
         |exact⟨k+1,_,_,by omega,by go_num,rfl,rfl,by omega,by omega,by omega,by omega,gG HB4.out⟩
         |(simp[intOf];omega)
       ·go_region
        all_goals go_wp2_with fail
        all_goals go_roundw
        all_goals first
         |exact⟨k+1,_,_,by omega,by go_num,rfl,rfl,by omega,by omega,by omega,by omega,gG HB4.out⟩
         |(simp[intOf];omega)
      ·go_region
       all_goals go_wp2_with fail
       all_goals go_roundw
       all_goals first
        |exact⟨k+1,_,_,by omega,by go_num,rfl,rfl,by omega,by omega,by omega,by omega,gG HB4.out⟩
        |(simp[intOf];omega)
     ·go_region
      all_goals go_wp2_with fail
      all_goals go_roundw
      all_goals first
       |exact⟨k+1,_,_,by omega,by go_num,rfl,rfl,by omega,by omega,by omega,by omega,gG HB4.out⟩
       |(simp[intOf];omega)
    ·obtain⟨m,hm⟩: ∃m,ns.length=m+2:=⟨ns.length-2,by omega⟩
     obtain⟨b3,Gu,rfl,hb3,hc4⟩:=aN.cell (l:=ns) Ql.out (k:=m) (by omega)
     obtain⟨b9,J4,TI,_,hc5⟩:=aN.cell (l:=ns) Ql.out (k:=m+1) (by omega)
     obtain⟨rfl,rfl⟩:b9=b3/\J4=Gu:=by
      injection TI with h
      injection h with h1 h2
      exact⟨h1.symm,h2.symm⟩
     obtain⟨xa,hxa⟩: ∃y,ns[m]=y:=⟨_,rfl⟩
     obtain⟨xb,hxb⟩: ∃y,ns[m+1]=y:=⟨_,rfl⟩
     have YV:=Qq.out xa (by rw[<-hxa];exact List.getElem_mem _)
     have YU:=Qq.out xb (by rw[<-hxb];exact List.getElem_mem _)
     rw[hxa] at hc4
     rw[hxb] at hc5
     rw[hm]
     have hml:m<=1000:=by omega
     have e1:(m:Int)+2-2=m:=by omega
     have e2:(m:Int)+2-1=(m:Int)+1:=by omega
     clear hxa hxb hm TI gl
     go_wp2_with fail
     by_cases hab:xa<=xb
     ·by_cases hba:xb<=xa+9
      ·by_cases hN:N<=1000
       ·have hmul:=lt_mul N xa xb hN0 hN hab hba
        have hw64:wrap64 (N*(xb-xa+1))=N*(xb-xa+1):=IntWalk.wrap64_in _ ⟨by omega,by omega⟩
        go_region
        all_goals go_wp2_with fail
        all_goals go_roundw
        all_goals first
         |exact⟨k+1,_,_,by omega,by go_num,rfl,rfl,by omega,by omega,by omega,by omega,gG HB4.out⟩
         |(simp[intOf];omega)
       ·go_region
        all_goals go_wp2_with fail
        all_goals go_roundw
        all_goals first
         |exact⟨k+1,_,_,by omega,by go_num,rfl,rfl,by omega,by omega,by omega,by omega,gG HB4.out⟩
         |(simp[intOf];omega)
      ·go_region
       all_goals go_wp2_with fail
       all_goals go_roundw
       all_goals first
        |exact⟨k+1,_,_,by omega,by go_num,rfl,rfl,by omega,by omega,by omega,by omega,gG HB4.out⟩
        |(simp[intOf];omega)
     ·go_region
      all_goals go_wp2_with fail
      all_goals go_roundw
      all_goals first
       |exact⟨k+1,_,_,by omega,by go_num,rfl,rfl,by omega,by omega,by omega,by omega,gG HB4.out⟩
       |(simp[intOf];omega)
    ·obtain⟨m,hm⟩: ∃m,ns.length=m+2:=⟨ns.length-2,by omega⟩
     obtain⟨b3,Gu,rfl,hb3,hc4⟩:=aN.cell (l:=ns) Ql.out (k:=m) (by omega)
     obtain⟨b9,J4,TI,_,hc5⟩:=aN.cell (l:=ns) Ql.out (k:=m+1) (by omega)
     obtain⟨rfl,rfl⟩:b9=b3/\J4=Gu:=by
      injection TI with h
      injection h with h1 h2
      exact⟨h1.symm,h2.symm⟩
     obtain⟨xa,hxa⟩: ∃y,ns[m]=y:=⟨_,rfl⟩
     obtain⟨xb,hxb⟩: ∃y,ns[m+1]=y:=⟨_,rfl⟩
     have YV:=Qq.out xa (by rw[<-hxa];exact List.getElem_mem _)
     have YU:=Qq.out xb (by rw[<-hxb];exact List.getElem_mem _)
     rw[hxa] at hc4
     rw[hxb] at hc5
     rw[hm]
     have hml:m<=1000:=by omega
     have e1:(m:Int)+2-2=m:=by omega
     have e2:(m:Int)+2-1=(m:Int)+1:=by omega
     clear hxa hxb hm TI gl
     go_wp2_with fail
     by_cases hab:xa<=xb
     ·by_cases hba:xb<=xa+9
      ·by_cases hN:N<=1000
       ·have hmul:=lt_mul N xa xb hN0 hN hab hba
        have hw64:wrap64 (N*(xb-xa+1))=N*(xb-xa+1):=IntWalk.wrap64_in _ ⟨by omega,by omega⟩
        go_region
        all_goals go_wp2_with fail
        all_goals go_roundw
        all_goals first
         |exact⟨k+1,_,_,by omega,by go_num,rfl,rfl,by omega,by omega,by omega,by omega,gG HB4.out⟩
         |(simp[intOf];omega)
       ·go_region
        all_goals go_wp2_with fail
        all_goals go_roundw
        all_goals first
         |exact⟨k+1,_,_,by omega,by go_num,rfl,rfl,by omega,by omega,by omega,by omega,gG HB4.out⟩
         |(simp[intOf];omega)
      ·go_region
       all_goals go_wp2_with fail
       all_goals go_roundw
       all_goals first
        |exact⟨k+1,_,_,by omega,by go_num,rfl,rfl,by omega,by omega,by omega,by omega,gG HB4.out⟩
        |(simp[intOf];omega)
     ·go_region
      all_goals go_wp2_with fail
      all_goals go_roundw
      all_goals first
       |exact⟨k+1,_,_,by omega,by go_num,rfl,rfl,by omega,by omega,by omega,by omega,gG HB4.out⟩
       |(simp[intOf];omega)
    ·obtain⟨m,hm⟩: ∃m,ns.length=m+2:=⟨ns.length-2,by omega⟩
     obtain⟨b3,Gu,rfl,hb3,hc4⟩:=aN.cell (l:=ns) Ql.out (k:=m) (by omega)
     obtain⟨b9,J4,TI,_,hc5⟩:=aN.cell (l:=ns) Ql.out (k:=m+1) (by omega)
     obtain⟨rfl,rfl⟩:b9=b3/\J4=Gu:=by
      injection TI with h
      injection h with h1 h2
      exact⟨h1.symm,h2.symm⟩
     obtain⟨xa,hxa⟩: ∃y,ns[m]=y:=⟨_,rfl⟩
     obtain⟨xb,hxb⟩: ∃y,ns[m+1]=y:=⟨_,rfl⟩
     have YV:=Qq.out xa (by rw[<-hxa];exact List.getElem_mem _)
     have YU:=Qq.out xb (by rw[<-hxb];exact List.getElem_mem _)
     rw[hxa] at hc4
     rw[hxb] at hc5
     rw[hm]
     have hml:m<=1000:=by omega
     have e1:(m:Int)+2-2=m:=by omega
     have e2:(m:Int)+2-1=(m:Int)+1:=by omega
     clear hxa hxb hm TI gl
     go_wp2_with fail
     by_cases hab:xa<=xb
     ·by_cases hba:xb<=xa+9
      ·by_cases hN:N<=1000
       ·have hmul:=lt_mul N xa xb hN0 hN hab hba
        have hw64:wrap64 (N*(xb-xa+1))=N*(xb-xa+1):=IntWalk.wrap64_in _ ⟨by omega,by omega⟩
        go_region
        all_goals go_wp2_with fail
        all_goals go_roundw
        all_goals first
         |exact⟨k+1,_,_,by omega,by go_num,rfl,rfl,by omega,by omega,by omega,by omega,gG HB4.out⟩
         |(simp[intOf];omega)
       ·go_region
        all_goals go_wp2_with fail
        all_goals go_roundw
        all_goals first
         |exact⟨k+1,_,_,by omega,by go_num,rfl,rfl,by omega,by omega,by omega,by omega,gG HB4.out⟩
         |(simp[intOf];omega)
      ·go_region
       all_goals go_wp2_with fail
       all_goals go_roundw
       all_goals first
        |exact⟨k+1,_,_,by omega,by go_num,rfl,rfl,by omega,by omega,by omega,by omega,gG HB4.out⟩
        |(simp[intOf];omega)
     ·go_region
      all_goals go_wp2_with fail
      all_goals go_roundw
      all_goals first
       |exact⟨k+1,_,_,by omega,by go_num,rfl,rfl,by omega,by omega,by omega,by omega,gG HB4.out⟩
       |(simp[intOf];omega)
  ·have hkl:k=ls.length:=by omega
   subst hkl
   by_cases h60:N<=60
   ·go_wp2_with fail
    go_returns
    exact⟨HB.out,_,rfl⟩
   ·go_wp2_with fail
    go_returns
    exact⟨HB.out,_,rfl⟩
def UF (ls:List Bytes) (w:World) (e:Ending) (w':World):Prop:=Below w.heap.size w w'/\ ∃b,e= .returned (.bool b)/\(b=true->eY ls=0)
theorem Qc (ls:List Bytes) (v:Value) (w:World) (hv:gI w v ls):Calls Tryz.prog 4 #[v] w (UF ls w):=by
 have HV:=Lib.hid hv
 have HT:=Lib.hid (fun W (hb:Below w.heap.size w W)=>UD ls v W (HV.out.below hb (Nat.le_refl _)))
 have HF:=Lib.hid (fun W (hb:Below w.heap.size w W)=>Kv ls v W (HV.out.below hb (Nat.le_refl _)))
 have HLT:=Lib.hid (fun W (hb:Below w.heap.size w W) (h:BJ ls=true)=>Qg ls v W (HV.out.below hb (Nat.le_refl _)) (by have:=(oP.1 h).1;omega) (fun x hx=>by have:=(oP.1 h).2 x hx;omega))
 clear hv
 obtain⟨q,hq⟩: ∃q,BJ ls=q:=⟨_,rfl⟩
 rw[hq] at HT HLT
 obtain⟨f,hf⟩: ∃f,eY ls=f:=⟨_,rfl⟩
 rw[hf] at HF
 unfold UF
 rw[hf]
 clear hq hf
 go_enter Tryz.func4,Tryz.ntmps4
 go_wp2_with fail
 refine(HT.out w (Below.refl _ _)).mono ?_
 rintro e W1 ⟨rfl,hB1⟩
 have HB1:=Lib.hid hB1
 clear hB1
 cases q with
 |false=>
  go_wp2_with fail
  go_returns
  exact⟨HB1.out,_,rfl,fun h=>by cases h⟩
 |true=>
  go_wp2_with fail
  refine(HF.out W1 HB1.out).mono ?_
  rintro e W2 ⟨rfl,hB2⟩
  have HB2:=Lib.hid (aH HB1.out hB2)
  clear hB2
  by_cases h0:f=0
  ·subst h0
   go_wp2_with fail
   refine(HLT.out W2 HB2.out (by first|trivial|rfl)).mono ?_
   rintro e W3 ⟨hB3,b,rfl⟩
   have HB3:=Lib.hid (aH HB2.out hB3)
   clear hB3
   go_wp2_with fail
   go_returns
   exact⟨HB3.out,by cases b <;>simp⟩
  ·go_wp2_with fail
   go_returns
   exact⟨HB2.out,_,rfl,fun h=>by cases h⟩
end Go.Proofs.YtabpkkbiioihaaaGreatDoor.Bk
end
section
namespace Go.Proofs.YtabpkkbiioihaaaGreatDoor.Bk
open Go.Lib Go.RowKit Go.RG Go.SL Go.Shelf gZ Go.TB Go.Proofs.YtabpkkbiioihaaaGreatDoor.xH
theorem UE: ∀(n:Nat) (w:World),n<=100000->Calls Tryz.prog 23 #[iv n] w (PV (.string (dW (decDigits n))) w):=by
 intro n
 induction n using Nat.strongRecOn with
 |_ n ih=>
  intro w hn
  by_cases h:n<10
  ·rw[jh h]
   have hI:(n:Int)<10:=by omega
   have hw:IntKind.u8.wrap (48+(n:Int))=48+(n:Int):=by
    have hb:(2:Int)^IntKind.u8.bits=256:=by decide
    simp only[IntKind.wrap,hb,show IntKind.u8.signed=false from rfl,Bool.false_and,Bool.false_eq_true,if_false];omega
   have hd:((Ip n).toNat:Int)=48+(n:Int):=by rw[mi h];omega
   have hcv:(convert 99 9 (.slice (some ⟨w.heap.size,0,none⟩) 1 1)).run Tryz.prog (w.alloc (.cells #[.int .u8 (48+(n:Int))] 5))= .ok (.string (dW [Ip n])) (w.alloc (.cells #[.int .u8 (48+(n:Int))] 5)):=run_convert_bytes_back _ _ _ 5 ⟨w.heap.size,0,none⟩ 1 [Ip n] Tryz.underlying99 Tryz.underlying5 Tryz.underlying9 (fun j hj=>by
    obtain rfl:j=0:=by simpa using hj
    simp only[List.getElem_cons_zero,hd]
    simp[Addr.add])
   generalize Ip n=c at*
   clear ih
   go_enter Tryz.func23,Tryz.ntmps23
   go_wp2_with fail
   go_returns
   exact⟨by simp,af (Below.refl _ _) _⟩
  ·rw[rQ h]
   have h1:=Lib.hid (fun W=>ih (n/10) (by omega) W (by omega))
   have h2:=Lib.hid (fun W=>ih (n%10) (by omega) W (by omega))
   have hI: ¬(n:Int)<10:=by omega
   have e1:(n:Int).tdiv 10=((n/10:Nat):Int):=by rw[Int.tdiv_eq_ediv_of_nonneg (by omega)];omega
   have e2:(n:Int).tmod 10=((n%10:Nat):Int):=by rw[Int.tmod_eq_emod_of_nonneg (by omega)];omega
   have hd2:decDigits (n%10)=[Ip (n%10)]:=jh (by omega)
   have hl:=Ll 4 (n/10) (by omega)
   rw[hd2] at h2
   have ha:n/10<=10000:=by omega
   have hb:n%10<10:=by omega
   clear ih
   generalize n/10=a at*
   generalize n%10=b at*
   go_enter Tryz.func23,Tryz.ntmps23
   go_wp2_with fail
   refine(h1.out w).mono ?_
   rintro e W1 ⟨rfl,hB⟩
   have HB1:=Lib.hid hB
   clear hB
   go_wp2_with fail
   refine(h2.out W1).mono ?_
   rintro e W2 ⟨rfl,hB⟩
   have HB2:=Lib.hid (aH HB1.out hB)
   clear hB
   have hadd:=fun W=>Ea (P:=Tryz.prog) (a:=decDigits a) (b:=[Ip b]) rfl (by simp;omega) W
   go_wp2_with fail
   go_returns
   exact⟨by simp[I4],HB2.out⟩
theorem rP {k:Nat} (h:k<10000):(decDigits k).length<=4:=Ll 3 k (by omega)
theorem xh: ∀(ns:List Nat) (w:Bytes),(∀k∈ns,k<10000)->(lW w ns).length<=w.length+5*ns.length:=by
 intro ns
 induction ns with
 |nil=>intro w _;exact Nat.le_refl _
 |cons k ns ih=>
  intro w h
  have:=ih (w++(32::decDigits k)) fun x hx=>h x (List.mem_cons_of_mem _ hx)
  have h5:=rP (h k (List.mem_cons_self ..))
  unfold lW at this⊢
  rw[List.foldl_cons]
  simp only[List.length_append,List.length_cons] at this⊢
  omega
abbrev lg (ns:List Nat):List Int:=ns.map fun(k:Nat)=>(k:Int)
theorem Ku (w:Bytes) (ns:List Nat) (k:Nat):lW w (ns++[k])=lW w ns++(32::decDigits k):=by unfold lW;rw[List.foldl_append];rfl
theorem F5 (word:Bytes) (ns:List Nat) (v:Value) (w:World) (hv:aN w v (lg ns)) (hw:word.length<=100) (hn:ns.length<=10) (hk: ∀k∈ns,k<10000):Calls Tryz.prog 10 #[.string (dW word),v] w (PV (.string (dW (lW word ns))) w):=by
 have hlen:=hv.len
 have hnl:(lg ns).length=ns.length:=by simp
 unfold aN at hv
 rw[hnl] at hv
 obtain⟨o,c,rfl⟩:=aB.open hv
 have HV:=Lib.hid hv
 clear hv hnl hlen
 have HK:=Lib.hid hk
 clear hk
 go_enter Tryz.func10,Tryz.ntmps10
 go_wp2_with fail
 go_loopw [0,5] (fun s i wr=> ∃k:Nat,k<=ns.length/\i= .int .i64 k/\s= .string (dW (lW word (ns.take k)))/\Below w.heap.size w wr) (fun _ i _=>ns.length-(intOf i).toNat)
 case atStart=>exact⟨0,Nat.zero_le _,rfl,rfl,Below.refl _ _⟩
 case round=>
  obtain⟨k,hk,rfl,rfl,hB⟩:=hrel
  have HB:=Lib.hid hB
  by_cases hlt:k<ns.length
  ·obtain⟨b,off,rfl,hb,hc0⟩:=aN.cell (l:=lg ns) (aB.below HV.out hB (Nat.le_refl _)) (k:=k) (by simpa using hlt)
   obtain⟨x,hx⟩: ∃x,ns[k]=x:=⟨_,rfl⟩
   simp only[lg,List.getElem_map,hx] at hc0
   have hx9:x<10000:=HK.out x (by rw[<-hx];exact List.getElem_mem _)
   have htk:lW word (ns.take (k+1))=lW word (ns.take k)++(32::decDigits x):=by rw[List.take_succ_eq_append_getElem hlt,hx,Ku]
   have Jf:=Lib.hid htk
   have hll:=xh (ns.take k) word fun y hy=>HK.out y (List.mem_of_mem_take hy)
   have hdl:=rP hx9
   have htl:(ns.take k).length<=10:=by simp;omega
   generalize lW word (ns.take k)=lw at*
   have HT:=Lib.hid (fun W=>UE x W (by omega))
   generalize decDigits x=ds at*
   clear hB htk hx
   go_wp2_with fail
   refine(HT.out wr).mono ?_
   rintro e W2 ⟨rfl,hB⟩
   have HB2:=Lib.hid (aH HB.out hB)
   have a1:=fun W=>Ea (P:=Tryz.prog) (a:=[32]) (b:=ds) rfl (by simp;omega) W
   have a2:=fun W=>Ea (P:=Tryz.prog) (a:=lw) (b:=32::ds) rfl (by simp;omega) W
   simp only[List.cons_append,List.nil_append] at a1
   clear hB
   go_wp2_with fail
   go_roundw
   case rel=>exact⟨k+1,by omega,by go_num,by rw[Jf.out],HB2.out⟩
   case measure=>simp[intOf];omega
  ·have hkl:k=ns.length:=by omega
   subst hkl
   rw[List.take_length]
   go_wp2_with fail
   go_returns
   exact⟨by simp,HB.out⟩
theorem TW {ls:List Bytes} (h1:ls.length<=40) (h2: ∀l∈ls,l.length<=60):eY ls=0:=by
 unfold eY
 rw[if_neg]
 rintro(h|h)
 ·omega
 ·obtain⟨x,hx,h⟩:=List.any_eq_true.1 h
  have:=h2 x hx
  simp at h
  omega
theorem Rn {ls:List Bytes} (h0:eY ls=0) (h37:ls.length<=38) {a b:Bytes} (ha:a.length<=60) (hb:b.length<=60) {s1 s2:gV} (h1:oK aJ (fZ ls) a=(s1,0)) (h2:oK aJ s1 b=(s2,0)):
 eY (ls++[a,b])=0/\fZ (ls++[a,b])=s2/\qw (ls++[a,b])=qw ls++[0,0]/\(qw ls).length=ls.length:=by
 have hf:eY (ls++[a,b])=0:=TW (by simp;omega) fun l hl=>by
  rcases List.mem_append.1 hl with hl|hl
  ·exact(sZ h0).2 l hl
  ·simp at hl
   rcases hl with rfl|rfl
   ·exact ha
   ·exact hb
 have e:dH aJ bJ (ls++[a,b])=(s2,(dH aJ bJ ls).2++[0,0]):=by
  unfold fZ at h1
  rw[if_pos h0] at h1
  rw[Gj]
  simp only[dH,h1,h2]
 refine⟨hf,?_,?_,?_⟩
 ·unfold fZ;rw[if_pos hf,e]
 ·unfold qw;rw[if_pos hf,if_pos h0,e]
 ·unfold qw;rw[if_pos h0,Gi]
theorem RQ:lu bJ.led.field=[(0,3),(0,3)]:=by decide+kernel
theorem RP:jG kQ bJ.led (bz bJ.led)=[(0,30),(0,30)]:=by decide+kernel
theorem Vy:cO bJ.led.field true=0:=by decide+kernel
theorem Oj:bC bJ.led true=0:=by decide+kernel
theorem Gz:fZ []=bJ/\eY []=0:=⟨rfl,rfl⟩
theorem Ig (w:World) (hE:Env w):Calls Tryz.prog 5 #[] w (PV (.bool true) w):=by
 have HE:=Lib.hid hE
 clear hE
 go_enter Tryz.func5,Tryz.ntmps5
 go_wp2_with fail
 refine(wK (.slice none 0 0) ([]) w (aB.nil _ _) (HE.out) ((fun l hl=>by cases hl)) [] (by simp)).mono ?_
 rintro e LY ⟨hb2,Va,esa,cv,he,hX,hC⟩
 subst he
 obtain⟨coa,cca,rfl⟩:=aK hC
 have hs2:=hb2.size
 have hS2:=hX LY (Ext.refl _ _)
 rename_i hK
 refine hK _ _ ?_
 refine az rfl _ (by go_simp;first|rfl|exact⟨rfl,rfl⟩) ?_
 simp only[zp]
 refine az rfl _ (by go_simp;first|rfl|exact⟨rfl,rfl⟩) ?_
 simp only[zp]
 refine az rfl _ (by go_simp;first|rfl|exact⟨rfl,rfl⟩) ?_
 simp only[zp]
 refine az rfl _ (by go_simp;first|rfl|exact⟨rfl,rfl⟩) ?_
 simp only[zp]
 obtain⟨ga,hg⟩: ∃g,g=LY.heap.size:=⟨_,rfl⟩
 refine az rfl (w':=LY.alloc (.cells dJ 46 (0,0))) (.pointer (some ⟨ga,0,none⟩)) (by rw[hg];go_simp;try rfl) ?_
 simp only[zp]
 have hz2:(LY.alloc (.cells dJ 46 (0,0))).heap[ga]? =some (.cells dJ 46 (0,0)):=by rw[hg];exact ag _ _
 refine wpList_store_row rfl _ _ _ rfl ga (bV (fZ ([])) Va) (by as_aux_lemma=>kernel_rfl) (by as_aux_lemma=>kernel_rfl) _ dJ hz2 (by kernel_rfl) (by as_aux_lemma=>kernel_rfl) (by rw[Array.all_eq_true_iff_forall_mem];exact fun u hu=>fO hS2 u (Array.mem_toList_iff.2 hu)) ?_
 simp only[zp]
 refine jA fun BB hW3=>?_
 obtain⟨wI,jR⟩: ∃wI,wI=LY.alloc (.cells dJ 46 (0,0)):=⟨_,rfl⟩
 rw[<-jR] at hW3 hz2
 have rE:Ext [ga] wI BB:=by rw[hW3];exact dX
 have hs3:=rE.size
 have hs2':wI.heap.size=ga+1:=by rw[jR,hg];simp
 have kM:Below LY.heap.size LY BB:=iD (by rw[jR];exact af (Below.refl _ _) _) rE (by omega)
 have Bh:BB.heap[ga]? =some (.cells (bV (fZ ([])) Va) 46 (0,0)):=by rw[hW3];exact setRow_heap _ _ _ _ _ _ hz2
 have hb3:=aH hb2 kM
 have aeK:w.heap.size<=ga:=by omega
 have OY:ga<BB.heap.size:=by omega
 have Xd:=Lib.hid (And.intro hb3 (And.intro Bh (And.intro (hS2.below kM (Nat.le_refl _)) (aB.dn (ah (Ms:=[]) hC (Ext.of_below kM) (by simp))))))
 clear hX hC hW3 jR rE kM hb2 hS2 hz2 hK hs2 hs3 hs2' hg hb3
 rw[Gz.1] at Bh Xd⊢
 obtain⟨vt,vn,vw,vu,vr,vh,vk,vs⟩:=Va
 obtain⟨c3,f3,l3⟩:=cells_of_block Bh
 have HD:=Lib.hid (oO bJ.led.field vt BB Xd.out.2.2.1.pM)
 have HP:=Lib.hid (fun W (hb:Below BB.heap.size BB W)=>Jb bJ.led vt vn W (Xd.out.2.2.1.below hb (Nat.le_refl _)).pM (Xd.out.2.2.1.below hb (Nat.le_refl _)).MV)
 go_wp2_with fail
 refine HD.out.mono ?_
 rintro e W4 ⟨hB4,hp⟩
 rcases hp with⟨hne,_⟩|⟨_,u,rfl,hu⟩
 ·exact absurd Vy hne
 rw[RQ] at hu
 obtain⟨uo,uc,rfl⟩:=hu.open
 have hk4:=(hB4.block ga OY).trans Bh
 have afc:=hB4
 have HB4:=Lib.hid hB4
 have HU:=Lib.hid hu
 have HPP:=Lib.hid (HP.out W4 hB4)
 have hs4:=hB4.size
 clear c3 f3 l3 hB4 hu Bh afc
 obtain⟨c4,f4,l4⟩:=cells_of_block hk4
 clear hk4
 go_wp2_with fail
 refine HPP.out.mono ?_
 rintro e W5 ⟨sV,hp⟩
 rcases hp with⟨hne,_⟩|⟨_,u,rfl,U1⟩
 ·exact absurd Oj hne
 rw[RP] at U1
 obtain⟨vo,vc,rfl⟩:=U1.open
 obtain⟨lb,adU,rfl,hlb,d1,d2⟩:=bn.cell (l:=[(0,3),(0,3)]) (HU.out.below sV (Nat.le_refl _)) (k:=0) (by simp)
 obtain⟨mb,ahZ,rfl,hmb,e1,e2⟩:=bn.cell (l:=[(0,30),(0,30)]) U1 (k:=1) (by simp)
 simp only[List.getElem_cons_zero,List.getElem_cons_succ,Nat.zero_mul,Nat.one_mul,Nat.mul_zero,Nat.mul_one,Nat.add_zero] at d1 d2 e1 e2
 simp only[List.length_cons,List.length_nil,Nat.reduceAdd]
 have lD:=Lib.hid (aH Xd.out.1 (aH HB4.out sV))
 rw[Gz.2]
 clear sV U1 c4 f4 l4
 go_wp2_with fail
 go_returns
 exact⟨by simp,lD.out⟩
theorem oQ (ls:List Bytes): ∀u∈bT ls,u.oneCell'=true:=fun u hu=>by
 obtain⟨x,_,rfl⟩:=List.mem_map.1 hu
 rfl
theorem aav {k:Nat} {p:bK} (hk:k<2) (hp:0<=p.1/\p.1<=p.2/\p.2<=2000) {W:World} {b:Nat} (hb:W.heap[b]? =some (.cells #[iv k,iv p.1,iv p.2] 3 (0,0))):
 Calls Tryz.prog 10 #[.string (dW gB.note.word),.slice (some ⟨b,0,none⟩) 3 3] W (PV (.string (dW (xY k p))) W):=by
 have e1:((p.1.toNat:Nat):Int)=p.1:=by omega
 have e2:((p.2.toNat:Nat):Int)=p.2:=by omega
 refine F5 gB.note.word [k,p.1.toNat,p.2.toNat] _ W ?_ (by decide) (by simp) (by intro x hx;simp at hx;omega)
 have h:aB 1 W (.slice (some ⟨b,0,none⟩) 3 3) 3 (intCells [(k:Int),p.1,p.2]):=aB.of_block 1 3 hb rfl (by decide)
 have e:lg [k,p.1.toNat,p.2.toNat]=[(k:Int),p.1,p.2]:=by rw[lg,List.map_cons,List.map_cons,List.map_cons,List.map_nil,e1,e2]
 rw[e]
 exact h
theorem XZ {k:Nat} {n:Int} {d:bK} (hk:k<2) (hn:1<=n/\n<=5) (hd:0<=d.1/\d.1<=d.2/\d.2<=5) {W:World} {b:Nat} (hb:W.heap[b]? =some (.cells #[iv k,iv 0,iv (n-1),iv d.1,iv d.2] 3 (0,0))):
 Calls Tryz.prog 10 #[.string (dW gB.tally.word),.slice (some ⟨b,0,none⟩) 5 5] W (PV (.string (dW (qN k n d))) W):=by
 have e0:(((n-1).toNat:Nat):Int)=n-1:=by omega
 have e1:((d.1.toNat:Nat):Int)=d.1:=by omega
 have e2:((d.2.toNat:Nat):Int)=d.2:=by omega
 refine F5 gB.tally.word [k,0,(n-1).toNat,d.1.toNat,d.2.toNat] _ W ?_ (by decide) (by simp) (by intro x hx;simp at hx;omega)
 have h:aB 1 W (.slice (some ⟨b,0,none⟩) 5 5) 5 (intCells [(k:Int),0,n-1,d.1,d.2]):=aB.of_block 1 5 hb rfl (by decide)
 have e:lg [k,0,(n-1).toNat,d.1.toNat,d.2.toNat]=[(k:Int),0,n-1,d.1,d.2]:=by rw[lg,List.map_cons,List.map_cons,List.map_cons,List.map_cons,List.map_cons,List.map_nil,e0,e1,e2];rfl
 rw[e]
 exact h
theorem Oi {k:Nat} {p:bK} (hk:k<2) (hp:0<=p.1/\p.1<=p.2/\p.2<=2000):(xY k p).length<=60:=by
 have:=xh [k,p.1.toNat,p.2.toNat] gB.note.word (by intro x hx;simp at hx;omega)
 have h:gB.note.word.length=4:=rfl
 simp only[List.length_cons,List.length_nil] at this
 unfold xY
 omega
theorem JG {k:Nat} {n:Int} {d:bK} (hk:k<2) (hn:1<=n/\n<=5) (hd:0<=d.1/\d.1<=d.2/\d.2<=5):(qN k n d).length<=60:=by
 have:=xh [k,0,(n-1).toNat,d.1.toNat,d.2.toNat] gB.tally.word (by intro x hx;simp at hx;omega)
 have h:gB.tally.word.length=5:=rfl
 simp only[List.length_cons,List.length_nil] at this
 unfold qN
 omega
theorem Ef {W:World} {o:Option Addr} {c:Nat} {x y:bK} (h:bn W (.slice o 2 c) [x,y]): ∃b off,o=some ⟨b,off,none⟩/\b<W.heap.size/\W.cell? ⟨b,off,none⟩=some (iv x.1)/\W.cell? ⟨b,off+1,none⟩=some (iv x.2)/\W.cell? ⟨b,off+2,none⟩=some (iv y.1)/\W.cell? ⟨b,off+2+1,none⟩=some (iv y.2):=by
 obtain⟨b,off,rfl,hb,h1,h2⟩:=bn.cell (l:=[x,y]) h (k:=0) (by simp)
 obtain⟨b',off',he,_,h3,h4⟩:=bn.cell (l:=[x,y]) h (k:=1) (by simp)
 injection he with e
 injection e with e1 e2
 subst e1 e2
 exact⟨b,off,rfl,hb,by simpa using h1,by simpa using h2,by simpa using h3,by simpa using h4⟩
theorem SE {W:World} {o:Option Addr} {n c:Nat} {E F:List Int} (h:aB 1 W (.slice o (n+2) c) (n+2) (intCells E)) (hE:E=F++[0,0]) (hn:F.length=n):
 ∃b off,o=some ⟨b,off,none⟩/\b<W.heap.size/\W.cell? ⟨b,off+n,none⟩=some (iv 0)/\W.cell? ⟨b,off+(n+1),none⟩=some (iv 0):=by
 subst hE hn
 obtain⟨b,off,rfl,hb,h1⟩:=aN.cell (l:=F++[0,0]) h (k:=F.length) (by simp)
 obtain⟨b',off',he,_,h3⟩:=aN.cell (l:=F++[0,0]) h (k:=F.length+1) (by simp)
 injection he with e
 injection e with e1 e2
 subst e1 e2
 exact⟨b,off,rfl,hb,by simpa using h1,by simpa using h3⟩
theorem Fh (ls:List Bytes) (lv:Value) (k8:Int) (hk0:0<=k8) (hk8:k8<=255) (w:World) (hv:gI w lv ls) (hE:Env w):Calls Tryz.prog 3 #[lv,.int .u8 k8] w (PV (.bool true) w):=by
 obtain⟨lo,lc,rfl⟩:=aB.open hv
 have HSH:=Lib.hid (Qc ls _ w hv)
 have HV:=Lib.hid (fun W (hb:Below w.heap.size w W)=>hv.below hb (Nat.le_refl _))
 have HE:=Lib.hid (fun W (hb:Below w.heap.size w W)=>hE.below hb (Nat.le_refl _))
 have HEN:=Lib.hid (fun W (hb:Below w.heap.size w W)=>Ig W (hE.below hb (Nat.le_refl _)))
 have hlen:=hv.len
 clear hv hE
 go_enter Tryz.func3,Tryz.ntmps3
 go_wp2_with fail
 refine HSH.out.mono ?_
 rintro e W1 ⟨hB1,b,rfl,hb⟩
 have HB1:=Lib.hid hB1
 clear hB1 HSH
 cases b with
 |false=>
  clear hb
  go_wp2_with fail
  refine(HEN.out W1 HB1.out).mono ?_
  rintro e W2 ⟨rfl,hB2⟩
  have HB2:=Lib.hid (aH HB1.out hB2)
  clear hB2
  go_wp2_with fail
  go_returns
  exact⟨by simp,HB2.out⟩
 |true=>
 have hf0:=hb rfl
 clear hb
 by_cases h37:37<ls.length
 ·have h37':(37:Int)<ls.length:=by omega
  clear hf0
  go_wp2_with fail
  refine(HEN.out W1 HB1.out).mono ?_
  rintro e W2 ⟨rfl,hB2⟩
  have HB2:=Lib.hid (aH HB1.out hB2)
  clear hB2
  go_wp2_with fail
  go_returns
  exact⟨by simp,HB2.out⟩
 have h37': ¬(37:Int)<ls.length:=by omega
 have Qo:=Lib.hid hf0
 have HLN:=Lib.hid (fun l (hl:l∈ls)=>show l.length<=1000000 by have:=(sZ hf0).2 l hl;omega)
 clear hf0
 go_wp2_with (at_builtin;go_loud (refine bQ rfl _ _ xK rfl W1.heap.size (.slice (some ⟨W1.heap.size,0,none⟩) 0 0) 0 [] rfl (owns_block (cs:= #[]) (n:=0) (ag _ _) rfl (Nat.le_refl _) (by decide)) (.slice lo ls.length lc) (ls).length (bT (ls)) rfl (aB.alloc (HV.out W1 HB1.out) _) (oQ (ls)) (by omega) (by omega) (by simp) ?_))
 intro v' W2 hown hgr _
 (try rw[Nat.zero_add] at hown)
 (try rw[List.nil_append] at hown)
 obtain⟨o2,c2,rfl⟩:=aK hown
 have hB2:Below W1.heap.size W1 W2:=Below.grown (af (Below.refl _ _) _) hgr (by simp) (fun g e=>by simp[Value.ownBlock] at e;omega)
 have HC2:=Lib.hid (And.intro hB2 (aB.dn hown))
 have hz2:=hB2.size
 clear hown hgr hB2
 have HB2:=Lib.hid (aH HB1.out HC2.out.1)
 go_wp2_with fail
 refine(wK (.slice o2 ls.length c2) (ls) W2 (HC2.out.2) (HE.out W2 HB2.out) (HLN.out) [] (by simp)).mono ?_
 rintro e LY ⟨hb2,Va,esa,cv,he,hX,hC⟩
 subst he
 obtain⟨coa,cca,rfl⟩:=aK hC
 have hs2:=hb2.size
 have hS2:=hX LY (Ext.refl _ _)
 rename_i hK
 refine hK _ _ ?_
 refine az rfl _ (by go_simp;first|rfl|exact⟨rfl,rfl⟩) ?_
 simp only[zp]
 refine az rfl _ (by go_simp;first|rfl|exact⟨rfl,rfl⟩) ?_
 simp only[zp]
 refine az rfl _ (by go_simp;first|rfl|exact⟨rfl,rfl⟩) ?_
 simp only[zp]
 refine az rfl _ (by go_simp;first|rfl|exact⟨rfl,rfl⟩) ?_
 simp only[zp]
 obtain⟨ga,hg⟩: ∃g,g=LY.heap.size:=⟨_,rfl⟩
 refine az rfl (w':=LY.alloc (.cells dJ 46 (0,0))) (.pointer (some ⟨ga,0,none⟩)) (by rw[hg];go_simp;try rfl) ?_
 simp only[zp]
 have hz2:(LY.alloc (.cells dJ 46 (0,0))).heap[ga]? =some (.cells dJ 46 (0,0)):=by rw[hg];exact ag _ _
 refine wpList_store_row rfl _ _ _ rfl ga (bV (fZ (ls)) Va) (by as_aux_lemma=>kernel_rfl) (by as_aux_lemma=>kernel_rfl) _ dJ hz2 (by kernel_rfl) (by as_aux_lemma=>kernel_rfl) (by rw[Array.all_eq_true_iff_forall_mem];exact fun u hu=>fO hS2 u (Array.mem_toList_iff.2 hu)) ?_
 simp only[zp]
 refine jA fun BB hW3=>?_
 obtain⟨wI,jR⟩: ∃wI,wI=LY.alloc (.cells dJ 46 (0,0)):=⟨_,rfl⟩
 rw[<-jR] at hW3 hz2
 have rE:Ext [ga] wI BB:=by rw[hW3];exact dX
 have hs3:=rE.size
 have hs2':wI.heap.size=ga+1:=by rw[jR,hg];simp
 have kM:Below LY.heap.size LY BB:=iD (by rw[jR];exact af (Below.refl _ _) _) rE (by omega)
 have Bh:BB.heap[ga]? =some (.cells (bV (fZ (ls)) Va) 46 (0,0)):=by rw[hW3];exact setRow_heap _ _ _ _ _ _ hz2
 have hb3:=aH hb2 kM
 have aeK:W2.heap.size<=ga:=by omega
 have OY:ga<BB.heap.size:=by omega
 have Xd:=Lib.hid (And.intro hb3 (And.intro Bh (And.intro (hS2.below kM (Nat.le_refl _)) (aB.dn (ah (Ms:=[]) hC (Ext.of_below kM) (by simp))))))
 clear hX hC hW3 jR rE kM hb2 hS2 hz2 hK hs2 hs3 hs2' hg hb3
 obtain⟨vt,vn,vw,vu,vr,vh,vk,vs⟩:=Va
 have HB3:=Lib.hid (aH HB2.out Xd.out.1)
 rw[Qo.out]
 obtain⟨s,hs⟩: ∃s,fZ ls=s:=⟨_,rfl⟩
 have ZJ:=Lib.hid (Ro Qo.out)
 rw[hs] at ZJ Bh Xd⊢
 have HS:=Lib.hid hs
 clear hs
 have HST:=Lib.hid (fun W (hb:Below BB.heap.size BB W)=>Xd.out.2.2.1.below hb (Nat.le_refl _))
 obtain⟨to9,tc9,rfl⟩: ∃o c,vt= .slice o s.led.field.ae.length c:=aB.open (HST.out BB (Below.refl _ _)).pM
 obtain⟨no,nc,rfl⟩: ∃o c,vn= .slice o s.led.notes.length c:=aB.open (HST.out BB (Below.refl _ _)).MV
 have ZI:=Lib.hid Bh
 clear Bh
 go_wp2_with (at_builtin;go_loud (refine bQ rfl _ _ xK rfl BB.heap.size (.slice (some ⟨BB.heap.size,0,none⟩) 0 0) 0 [] rfl (owns_block (cs:= #[]) (n:=0) (ag _ _) rfl (Nat.le_refl _) (by decide)) (.slice lo ls.length lc) (ls).length (bT (ls)) rfl (aB.alloc (HV.out BB HB3.out) _) (oQ (ls)) (by omega) (by omega) (by simp) ?_))
 intro v' W4 hown hgr _
 (try rw[Nat.zero_add] at hown)
 (try rw[List.nil_append] at hown)
 obtain⟨o4,c4,rfl⟩:=aK hown
 have hB4:Below BB.heap.size BB W4:=Below.grown (af (Below.refl _ _) _) hgr (by simp) (fun g e=>by simp[Value.ownBlock] at e;omega)
 have HC4:=Lib.hid (And.intro hB4 (aB.dn hown))
 have hz4:=hB4.size
 clear hown hgr hB4
 have HB4:=Lib.hid (aH HB3.out HC4.out.1)
 have HOW:=Lib.hid (Dl _ ls W4 HC4.out.2 (HE.out W4 HB4.out) HLN.out)
 go_wp2_with fail
 refine HOW.out.mono ?_
 rintro e W5 ⟨sV,u5,rfl,U1⟩
 have ZR:=Lib.hid (aH HC4.out.1 sV)
 have lD:=Lib.hid (aH HB4.out sV)
 have hoe:ui ls=bC s.led true:=by unfold ui;rw[if_pos Qo.out,HS.out]
 have hob:uj ls=if bC s.led true=0 then jG iR s.led (bz s.led) else[]:=by unfold uj;rw[if_pos Qo.out,HS.out]
 obtain⟨q,hq⟩: ∃q,ui ls=q:=⟨_,rfl⟩
 obtain⟨OB,hOB⟩: ∃q,uj ls=q:=⟨_,rfl⟩
 rw[hq] at hoe⊢
 rw[hOB] at hob U1
 have HOE:=Lib.hid hoe
 have HOB:=Lib.hid hob
 have BG:=Lib.hid hOB
 clear hq hOB
 obtain⟨uo5,uc5,rfl⟩:=U1.open
 have hz5:=sV.size
 have Zy:=Lib.hid U1
 have hk5:=(ZR.out.block ga OY).trans ZI.out
 have HD:=Lib.hid (oO s.led.field _ W5 (HST.out W5 ZR.out).pM)
 clear sV hoe hob U1
 obtain⟨cf5,ff5,lf5⟩:=cells_of_block hk5
 clear hk5
 go_wp2_with fail
 refine HD.out.mono ?_
 rintro e W6 ⟨FC,hp⟩
 rcases hp with⟨hne,_⟩|⟨_,u6,rfl,hu6⟩
 ·exact absurd ZJ.out.2.field hne
 have Xb:=Lib.hid (aH ZR.out FC)
 have lT:=Lib.hid (aH lD.out FC)
 have Zy:=Lib.hid (Zy.out.below FC (Nat.le_refl _))
 have hwd:=ZJ.out.1.ai
 obtain⟨d0,d1,hd⟩: ∃d0 d1,lu s.led.field=[d0,d1]:=by
  have h:=Pq s.led.field
  rw[hwd] at h
  match hq:lu s.led.field,h with
  |[a,b],_=>exact⟨a,b,rfl⟩
 rw[hd] at hu6
 obtain⟨uo6,uc6,rfl⟩:=hu6.open
 have Z7:=Lib.hid hu6
 have HDL:=Lib.hid hd
 have hk6:=(Xb.out.block ga OY).trans ZI.out
 have hz6:=FC.size
 clear FC hu6 hd cf5 ff5 lf5
 obtain⟨cf6,ff6,lf6⟩:=cells_of_block hk6
 clear hk6
 simp only[List.length_cons,List.length_nil,Nat.reduceAdd]
 by_cases hne:q≠0
 ·obtain rfl:q=11:=by
   rcases Us ZJ.out.2.led with h|h
   ·exact absurd (HOE.out.trans h) hne
   ·exact HOE.out.trans h
  clear hne
  go_wp2_with fail
  refine(HEN.out W6 lT.out).mono ?_
  rintro e W2 ⟨rfl,hB2⟩
  have HB2:=Lib.hid (aH lT.out hB2)
  clear hB2
  go_wp2_with fail
  go_returns
  exact⟨by simp,HB2.out⟩
 obtain rfl:q=0:=by simpa using hne
 have HA:=Lib.hid HOE.out.symm
 have hob:=HOB.out
 rw[if_pos HA.out] at hob
 obtain⟨x0,x1,hx⟩: ∃x0 x1,OB=[x0,x1]:=by
  have h:=yK (pJ HA.out).2 iR
  rw[hwd, <-hob] at h
  match OB,h with
  |[a,b],_=>exact⟨a,b,rfl⟩
 subst hx
 have HBO:=Lib.hid hob
 simp only[List.length_cons,List.length_nil,Nat.reduceAdd]
 clear hob hne
 by_cases hn4:4<s.led.notes.length
 ·have aeq:(4:Int)<s.led.notes.length:=by omega
  go_wp2_with fail
  refine(HEN.out W6 lT.out).mono ?_
  rintro e W2 ⟨rfl,hB2⟩
  have HB2:=Lib.hid (aH lT.out hB2)
  clear hB2
  go_wp2_with fail
  go_returns
  exact⟨by simp,HB2.out⟩
 have aeq: ¬(4:Int)<s.led.notes.length:=by omega
 by_cases ht4:4<s.led.field.ae.length
 ·have aea:(4:Int)<s.led.field.ae.length:=by omega
  go_wp2_with fail
  refine(HEN.out W6 lT.out).mono ?_
  rintro e W2 ⟨rfl,hB2⟩
  have HB2:=Lib.hid (aH lT.out hB2)
  clear hB2
  go_wp2_with fail
  go_returns
  exact⟨by simp,HB2.out⟩
 have aea: ¬(4:Int)<s.led.field.ae.length:=by omega
 have hP:=Jb s.led _ _ W6 (HST.out W6 Xb.out).pM (HST.out W6 Xb.out).MV
 simp only[lv,iW,hwd] at hP
 have HP:=Lib.hid hP
 clear hP
 obtain⟨k,hk,hkm⟩: ∃k:Nat,k<2/\k8.tmod 2=k:=⟨(k8%2).toNat,by omega,by rw[Int.tmod_eq_emod_of_nonneg hk0];omega⟩
 go_wp2_with fail
 refine HP.out.mono ?_
 rintro e W7 ⟨AU,hp⟩
 rcases hp with⟨hne,_⟩|⟨_,u7,rfl,hu7⟩
 ·exact absurd HA.out hne
 obtain⟨p0,p1,hpp⟩: ∃p0 p1,jG kQ s.led (bz s.led)=[p0,p1]:=by
  have h:=yK (pJ HA.out).2 kQ
  rw[hwd] at h
  match hq:jG kQ s.led (bz s.led),h with
  |[a,b],_=>exact⟨a,b,rfl⟩
 rw[hpp] at hu7
 obtain⟨uo7,uc7,rfl⟩:=hu7.open
 have U4:=Lib.hid hpp
 have HU7:=Lib.hid hu7
 have ZQ:=Lib.hid (aH Xb.out AU)
 have yC:=Lib.hid (aH lT.out AU)
 have Zy:=Lib.hid (Zy.out.below AU (Nat.le_refl _))
 have Z7:=Lib.hid (Z7.out.below AU (Nat.le_refl _))
 have hz7:=AU.size
 have vT:=(ZQ.out.block ga OY).trans ZI.out
 clear AU hu7 hpp cf6 ff6 lf6
 obtain⟨cf7,ff7,lf7⟩:=cells_of_block vT
 clear vT
 have hrw:=ZJ.out.1.rows
 have hr1: ¬s.led.field.rows<1:=by omega
 have hkI:(k:Int)<2:=by omega
 simp only[List.length_cons,List.length_nil,Nat.reduceAdd]
 have afB:=Zy
 have afA:=Z7
 go_wp2_with (at_builtin;go_loud (refine bQ rfl _ _ xK rfl W7.heap.size (.slice (some ⟨W7.heap.size,0,none⟩) 0 0) 0 [] rfl (owns_block (cs:= #[]) (n:=0) (ag _ _) rfl (Nat.le_refl _) (by decide)) (.slice lo ls.length lc) (ls).length (bT (ls)) rfl (aB.alloc (HV.out W7 yC.out) _) (oQ (ls)) (by omega) (by omega) (by simp) ?_))
 intro v' W8 hown hgr _
 (try rw[Nat.zero_add] at hown)
 (try rw[List.nil_append] at hown)
 obtain⟨o8,c8,rfl⟩:=aK hown
 have uX:Below W7.heap.size W7 W8:=Below.grown (af (Below.refl _ _) _) hgr (by simp) (fun g e=>by simp[Value.ownBlock] at e;omega)
 have XP:=Lib.hid (And.intro uX hown)
 have hz8:=uX.size
 clear hown hgr uX
 have af7:=Lib.hid (aH ZQ.out XP.out.1)
 have lQ:=Lib.hid (aH yC.out XP.out.1)
 have Zy:=Lib.hid (Zy.out.below XP.out.1 (Nat.le_refl _))
 have Z7:=Lib.hid (Z7.out.below XP.out.1 (Nat.le_refl _))
 have HU7:=Lib.hid (HU7.out.below XP.out.1 (Nat.le_refl _))
 have Tz:=(af7.out.block ga OY).trans ZI.out
 clear cf7 ff7 lf7
 obtain⟨cf8,ff8,lf8⟩:=cells_of_block Tz
 clear Tz
 obtain⟨pb,ahU,rfl,hpb,e1,e2⟩:=bn.cell (l:=[p0,p1]) HU7.out (k:=k) (by simpa using hk)
 obtain⟨db,afj,rfl,Xy,e3,e4⟩:=bn.cell (l:=[d0,d1]) Z7.out (k:=k) (by simpa using hk)
 obtain⟨p,hp⟩: ∃p,[p0,p1][k]'(by simpa using hk)=p:=⟨_,rfl⟩
 obtain⟨d,hd⟩: ∃d,[d0,d1][k]'(by simpa using hk)=d:=⟨_,rfl⟩
 rw[hp] at e1 e2
 rw[hd] at e3 e4
 obtain⟨⟨aa0,abA⟩,s1,s2,n1,n2,n3,n4,n5,n6⟩:=aau ZJ.out.1 ZJ.out.2 HA.out (by omega) (by omega) hk (p:=p) (d:=d) (by rw[U4.out, <-hp];simp[List.getD,hk]) (by rw[HDL.out, <-hd];simp[List.getD,hk])
 have WX:=Lib.hid (And.intro n1 (And.intro n2 (And.intro n3 (And.intro n4 (And.intro n5 n6)))))
 have aaW:1<=s.led.field.rows/\s.led.field.rows<=5:=by omega
 clear hp hd n1 n2 n3 n4 n5 n6
 go_wp2_with fail
 refine zg 33 [] none [(12,Spec.slice W8.heap.size #[iv k,iv p.1,iv p.2] 3 3),(13,Spec.val (.string (dW (xY k p)))),(30,Spec.slice W8.heap.size #[iv k,iv 0,iv (s.led.field.rows-1),iv d.1,iv d.2] 3 5),(31,Spec.val (.string (dW (qN k s.led.field.rows d)))),(32,Spec.slice W8.heap.size #[.string (dW (xY k p)),.string (dW (qN k s.led.field.rows d))] 9 2)] ?_
 simp only[zt]
 repeat ((first|refine zn ?_|refine zk ?_);simp only[zp])
 refine bZ W8.heap.size _ _ _ (by rfl) (Nat.le_refl _) (by rfl) (by simp) (by simp) (fun W hW=>by go_simp;try rfl) (fun b8=>?_)
 simp only[zp]
 refine dh _ (by rfl) (by rfl) 10 _ (fun W hW=>by go_simp;try rfl) (fun W hE hF=>by
  obtain⟨b',hb',_,hblk⟩:=hF _ (List.Mem.head _) (by as_aux_lemma=>kernel_rfl)
  cases hb'
  exact aav hk aa0 hblk) ?_
 simp only[zp]
 repeat ((first|refine zn ?_|refine zk ?_);simp only[zp])
 refine bZ W8.heap.size _ _ _ (by rfl) (Nat.le_refl _) (by rfl) (by simp) (by simp) (fun W hW=>by go_simp;try rfl) (fun b9=>?_)
 simp only[zp]
 refine dh _ (by rfl) (by rfl) 10 _ (fun W hW=>by go_simp;try rfl) (fun W hE hF=>by
  obtain⟨b',hb',_,hblk⟩:=hF _ (List.Mem.head _) (by as_aux_lemma=>kernel_rfl)
  cases hb'
  exact XZ hk aaW abA hblk) ?_
 simp only[zp]
 refine bZ W8.heap.size _ _ _ (by rfl) (Nat.le_refl _) (by rfl) (by simp) (by simp) (fun W hW=>by go_simp;try rfl) (fun b10=>?_)
 simp only[zp]
 intro W9 V9 ZZ
 obtain⟨ajm,TM,agI,TL⟩:=ZZ _ (List.Mem.head _)
 cases TM
 have Y6:Ext [] W8 W9:=V9
 have O6:=Y6.below
 have hz9:=O6.size
 have HBK:=Lib.hid TL
 have HOWN:=Lib.hid (ah (Ms:=[]) XP.out.2 Y6 (by simp))
 have oM:=Lib.hid O6
 clear V9 ZZ Y6 O6 TL cf8 ff8 lf8 e1 e2 e3 e4
 have QC:=Lib.hid (Oi hk aa0)
 have HTL:=Lib.hid (JG hk aaW abA)
 obtain⟨la,hla⟩: ∃la,xY k p=la:=⟨_,rfl⟩
 obtain⟨lb,hlb⟩: ∃lb,qN k s.led.field.rows d=lb:=⟨_,rfl⟩
 rw[hla] at QC WX HBK
 rw[hlb] at HTL WX HBK
 try rw[hla]
 try rw[hlb]
 clear hla hlb
 go_wp2_with (at_builtin;go_loud (refine bQ rfl _ _ xK rfl W7.heap.size (.slice o8 ls.length c8) ls.length (bT ls) rfl HOWN.out (.slice (some ⟨b10,0,none⟩) 2 2) 2 (bT [la,lb]) rfl (aB.of_block 1 2 HBK.out rfl (by decide)) (oQ _) (by omega) (by omega) (by omega) ?_))
 intro v' XI ru Xw _
 obtain⟨o10,c10,rfl⟩:=aK ru
 have TT:Below W7.heap.size W7 XI:=Below.grown (aH XP.out.1 oM.out) Xw (by omega) (fun g e=>(aZ HOWN.out g e).1)
 have Hf:=TT.size
 have ac0:=Lib.hid TT
 have hstr:bT ls++bT [la,lb]=bT (ls++[la,lb]):=by simp[bT]
 have SN:XI.ownsRow W7.heap.size 9 1 (.slice o10 (ls.length+2) c10) (ls.length+2) (bT (ls++[la,lb])):=by rw[<-hstr];exact ru
 clear ru
 have ru:=SN
 clear SN
 have hLl:ls.length+2=(ls++[la,lb]).length:=by simp
 have FD:=Lib.hid (Rn Qo.out (by omega) QC.out HTL.out (s1:=s1) (s2:=s2) (by rw[HS.out];exact WX.out.1) WX.out.2.1)
 have ZG:=Lib.hid (fun l (hl:l∈ls++[la,lb])=>show l.length<=1000000 by have:=(sZ FD.out.1).2 l hl;omega)
 obtain⟨L,hL⟩: ∃L,ls++[la,lb]=L:=⟨_,rfl⟩
 rw[hL] at ru hLl FD ZG
 rw[hLl] at ru⊢
 have acJ:=Lib.hid (aB.dn ru)
 have Xc:=Lib.hid (aH yC.out TT)
 have akj:=Lib.hid (aH ZQ.out TT)
 have ae5:L.length<=39:=by omega
 clear ru Xw TT hstr hL
 go_wp2_with (at_builtin;go_loud (refine bQ rfl _ _ xK rfl XI.heap.size (.slice (some ⟨XI.heap.size,0,none⟩) 0 0) 0 [] rfl (owns_block (cs:= #[]) (n:=0) (ag _ _) rfl (Nat.le_refl _) (by decide)) (.slice o10 L.length c10) (L).length (bT (L)) rfl (aB.alloc (acJ.out) _) (oQ (L)) (by omega) (by omega) (by simp) ?_))
 intro v' W11 hown hgr _
 (try rw[Nat.zero_add] at hown)
 (try rw[List.nil_append] at hown)
 obtain⟨o11,c11,rfl⟩:=aK hown
 have Zb:Below XI.heap.size XI W11:=Below.grown (af (Below.refl _ _) _) hgr (by simp) (fun g e=>by simp[Value.ownBlock] at e;omega)
 have WZ:=Lib.hid (And.intro Zb (aB.dn hown))
 have ah5:=Zb.size
 clear hown hgr Zb
 have UT:=Lib.hid (aH Xc.out WZ.out.1)
 go_wp2_with fail
 refine(wK (.slice o11 L.length c11) (L) W11 (WZ.out.2) (HE.out W11 UT.out) (ZG.out) [] (by simp)).mono ?_
 rintro e Zq ⟨hb2,Vb,esb,cv,he,hX,hC⟩
 subst he
 obtain⟨cob,ccb,rfl⟩:=aK hC
 have hs2:=hb2.size
 have hS2:=hX Zq (Ext.refl _ _)
 rename_i hK
 refine hK _ _ ?_
 refine az rfl _ (by go_simp;first|rfl|exact⟨rfl,rfl⟩) ?_
 simp only[zp]
 refine az rfl _ (by go_simp;first|rfl|exact⟨rfl,rfl⟩) ?_
 simp only[zp]
 refine az rfl _ (by go_simp;first|rfl|exact⟨rfl,rfl⟩) ?_
 simp only[zp]
 refine az rfl _ (by go_simp;first|rfl|exact⟨rfl,rfl⟩) ?_
 simp only[zp]
 obtain⟨gb,hg⟩: ∃g,g=Zq.heap.size:=⟨_,rfl⟩
 refine az rfl (w':=Zq.alloc (.cells dJ 46 (0,0))) (.pointer (some ⟨gb,0,none⟩)) (by rw[hg];go_simp;try rfl) ?_
 simp only[zp]
 have hz2:(Zq.alloc (.cells dJ 46 (0,0))).heap[gb]? =some (.cells dJ 46 (0,0)):=by rw[hg];exact ag _ _
 refine wpList_store_row rfl _ _ _ rfl gb (bV (fZ (L)) Vb) (by as_aux_lemma=>kernel_rfl) (by as_aux_lemma=>kernel_rfl) _ dJ hz2 (by kernel_rfl) (by as_aux_lemma=>kernel_rfl) (by rw[Array.all_eq_true_iff_forall_mem];exact fun u hu=>fO hS2 u (Array.mem_toList_iff.2 hu)) ?_
 simp only[zp]
 refine jA fun U3 hW3=>?_
 obtain⟨wI,jR⟩: ∃wI,wI=Zq.alloc (.cells dJ 46 (0,0)):=⟨_,rfl⟩
 rw[<-jR] at hW3 hz2
 have rE:Ext [gb] wI U3:=by rw[hW3];exact dX
 have hs3:=rE.size
 have hs2':wI.heap.size=gb+1:=by rw[jR,hg];simp
 have kM:Below Zq.heap.size Zq U3:=iD (by rw[jR];exact af (Below.refl _ _) _) rE (by omega)
 have VU:U3.heap[gb]? =some (.cells (bV (fZ (L)) Vb) 46 (0,0)):=by rw[hW3];exact setRow_heap _ _ _ _ _ _ hz2
 have hb3:=aH hb2 kM
 have aiJ:W11.heap.size<=gb:=by omega
 have aeE:gb<U3.heap.size:=by omega
 have H3b:=Lib.hid (And.intro hb3 (And.intro VU (And.intro (hS2.below kM (Nat.le_refl _)) (aB.dn (ah (Ms:=[]) hC (Ext.of_below kM) (by simp))))))
 clear hX hC hW3 jR rE kM hb2 hS2 hz2 hK hs2 hs3 hs2' hg hb3
 obtain⟨wt,wn,ww,wu,wr,wh,wk,ws⟩:=Vb
 have Qr:=Lib.hid (aH UT.out H3b.out.1)
 have QG:=Lib.hid (show(qw L).length=ls.length+2 by rw[FD.out.2.2.1,List.length_append,FD.out.2.2.2];rfl)
 have HEA:=Lib.hid H3b.out.2.2.2
 rw[FD.out.2.1] at VU H3b⊢
 rw[FD.out.1,QG.out]
 rw[QG.out] at HEA
 have Fq:=Lib.hid (fun W (hb:Below U3.heap.size U3 W)=>H3b.out.2.2.1.below hb (Nat.le_refl _))
 have HKB:=Lib.hid VU
 clear VU
 go_wp2_with (at_builtin;go_loud (refine bQ rfl _ _ xK rfl U3.heap.size (.slice (some ⟨U3.heap.size,0,none⟩) 0 0) 0 [] rfl (owns_block (cs:= #[]) (n:=0) (ag _ _) rfl (Nat.le_refl _) (by decide)) (.slice o10 L.length c10) (L).length (bT (L)) rfl (aB.alloc (acJ.out.below (aH WZ.out.1 H3b.out.1) (Nat.le_refl _)) _) (oQ (L)) (by omega) (by omega) (by simp) ?_))
 intro v' QB hown hgr _
 (try rw[Nat.zero_add] at hown)
 (try rw[List.nil_append] at hown)
 obtain⟨o12,c12,rfl⟩:=aK hown
 have nU:Below U3.heap.size U3 QB:=Below.grown (af (Below.refl _ _) _) hgr (by simp) (fun g e=>by simp[Value.ownBlock] at e;omega)
 have ZP:=Lib.hid (And.intro nU (aB.dn hown))
 have ah4:=nU.size
 clear hown hgr nU
 have UN:=Lib.hid (Dl _ L QB ZP.out.2 (HE.out QB (aH Qr.out ZP.out.1)) ZG.out)
 go_wp2_with fail
 refine UN.out.mono ?_
 rintro e W13 ⟨Za,u13,rfl,VN⟩
 have aa4:ui L=0:=by unfold ui;rw[if_pos FD.out.1,FD.out.2.1];exact WX.out.2.2.2.2.1
 have qF:uj L=[x0,x1]:=by unfold uj;rw[if_pos FD.out.1,FD.out.2.1,if_pos WX.out.2.2.2.2.1,WX.out.2.2.2.2.2, <-HBO.out]
 rw[aa4]
 rw[qF] at VN
 obtain⟨ahH,ahJ,rfl⟩:=VN.open
 have afC:=Lib.hid VN
 have NC:=Lib.hid (aH ZP.out.1 Za)
 have ac1:=Lib.hid (aH Qr.out NC.out)
 have ah3:=Za.size
 have OW:=(NC.out.block gb aeE).trans HKB.out
 have HD2:=Lib.hid (oO s2.led.field _ W13 (Fq.out W13 NC.out).pM)
 clear Za aa4 qF VN
 obtain⟨cf9,ff9,lf9⟩:=cells_of_block OW
 clear OW
 simp only[List.length_cons,List.length_nil,Nat.reduceAdd]
 go_wp2_with fail
 refine HD2.out.mono ?_
 rintro e WS ⟨Bl,hp⟩
 rcases hp with⟨hne,_⟩|⟨_,u14,rfl,VJ⟩
 ·exact absurd WX.out.2.2.1 hne
 rw[WX.out.2.2.2.1,HDL.out] at VJ
 obtain⟨ahG,ahI,rfl⟩:=VJ.open
 have ZT:=Lib.hid (aH NC.out Bl)
 have QH:=Lib.hid (aH Qr.out ZT.out)
 have XR:=Lib.hid (aH ac0.out (aH WZ.out.1 (aH H3b.out.1 ZT.out)))
 obtain⟨b1,f1,rfl,hb1,a1,a2,a3,a4⟩:=Ef (afB.out.below XR.out (Nat.le_refl _))
 obtain⟨b2,f2,hq2,hb2,c1',c2',c3',c4'⟩:=Ef (afA.out.below XR.out (Nat.le_refl _))
 obtain⟨rfl,rfl⟩:b2=db/\f2=afj:=by
  injection hq2 with h
  injection h with h1 h2
  exact⟨h1.symm,h2.symm⟩
 obtain⟨b3,f3,rfl,hb3,g1,g2,g3,g4⟩:=Ef (afC.out.below Bl (Nat.le_refl _))
 obtain⟨b4,f4,rfl,hb4,i1,i2,i3,i4⟩:=Ef VJ
 obtain⟨b5,f5,rfl,hb5,j1,j2⟩:=SE (HEA.out.below ZT.out (Nat.le_refl _)) FD.out.2.2.1 FD.out.2.2.2
 have afY:=Lib.hid (fun W (hb:Below WS.heap.size WS W)=>HEN.out W (aH QH.out hb))
 have y1:(ls.length:Int)+2-2=ls.length:=by omega
 have y2:(ls.length:Int)+2-1=(ls.length:Int)+1:=by omega
 rw[<-hLl]
 simp only[List.length_cons,List.length_nil,Nat.reduceAdd]
 clear hLl ae5
 clear hq2 Bl VJ cf9 ff9 lf9
 go_wp2_with fail
 refine zg 36 [] none [(35,Spec.val (.bool true))] ?_
 simp only[zt]
 repeat ((first|refine zn ?_|refine zk ?_);simp only[zp])
 refine dh _ (by rfl) (by rfl) 5 _ (fun W hW=>by go_simp;try rfl) (fun W hE hF=>by
  have hE':Ext [] WS W:=hE
  exact afY.out W hE'.below) ?_
 simp only[zp]
 intro Qa Hy afa
 have hE':Ext [] WS Qa:=Hy
 have af8:=Lib.hid (aH QH.out hE'.below)
 clear Hy afa hE'
 go_wp2_with fail
 go_returns
 exact⟨by simp,af8.out⟩
end Go.Proofs.YtabpkkbiioihaaaGreatDoor.Bk
end

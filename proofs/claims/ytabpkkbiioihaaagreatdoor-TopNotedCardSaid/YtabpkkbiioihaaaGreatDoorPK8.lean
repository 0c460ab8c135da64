/-
  Texts of this claim, packed by a program: ZA VK VM VO VL.
-/
import Derived.WalkKit
import Derived.WalkLawsBesides
import Derived.WalkSpells
import Derived.Outline
import Derived.Handy
import Derived.KernelRfl
import Derived.Lib.Hide
import Derived.BigRegion
import Derived.Deep.Cut
import Derived.Test.YtabpkkbiioihaaaGreatDoorPK7
set_option maxHeartbeats 8000000
set_option maxRecDepth 100000
set_option linter.all false
section
namespace Go.Proofs.YtabpkkbiioihaaaGreatDoor
open Go.RowKit Go.RG Go.SL Go.Shelf gZ Go.TB
end Go.Proofs.YtabpkkbiioihaaaGreatDoor
namespace Go.Proofs.YtabpkkbiioihaaaGreatDoor
open Go.RowKit Go.RG Go.SL Go.Shelf gZ Go.TB
theorem GL (l:ax):lX l (upto l.notes.length)=[]:=by
 unfold lX iV
 rw[List.filter_eq_nil_iff.2]
 ·rfl
 ·intro i hi
  have:(upto l.notes.length).contains (i:Int)=true:=by
   rw[List.contains_iff_mem]
   exact List.mem_map.2 ⟨i,hi,rfl⟩
  rw[this]
  simp
end Go.Proofs.YtabpkkbiioihaaaGreatDoor
namespace Go.Proofs.YtabpkkbiioihaaaGreatDoor
open Go.RowKit Go.RG Go.SL Go.Shelf gZ Go.TB
end Go.Proofs.YtabpkkbiioihaaaGreatDoor
end
section
namespace Go.Proofs.YtabpkkbiioihaaaGreatDoor
open Go.RowKit Go.RG Go.SL Go.Shelf gZ Go.TB
theorem LW {l l':ax} {o o':List Int} (hf:l.field=l'.field) (hl:lX l o=lX l' o') (d:List Int):alone l o d=alone l' o' d:=by
 unfold alone
 rw[hf]
 refine List.map_congr_left fun i _=>?_
 rw[<-vN, <-vN,hl]
theorem IZ {l l':ax} {o o':List Int} (hf:l.field=l'.field) (hb:l.box=l'.box) (hl:lX l o=lX l' o') (d:List Int):eu l o d=eu l' o' d:=by
 unfold eu uB nJ
 rw[LW hf hl,hb]
theorem KZ {l l':ax} (hf:l.field=l'.field) (hr:l.rate=l'.rate):bz l=bz l':=by
 unfold bz jS
 rw[hf,hr]
theorem Bd {l l':ax} {o o':List Int} (hf:l.field=l'.field) (hr:l.rate=l'.rate) (hb:l.box=l'.box) (hl:lX l o=lX l' o'):dF l o=dF l' o':=by
 unfold dF
 rw[KZ hf hr]
 congr 1
 funext d
 exact IZ hf hb hl d
theorem Ia {l l':ax} (h:dV l=0) (hf:l.field=l'.field) (hr:l.rate=l'.rate) (hb:l.box=l'.box) (hn:l'.notes.length<=5) (ha: ∀x∈l'.notes,oV l x=true):dV l'=0:=by
 unfold dV at h⊢
 split at h
 ·omega
 split at h
 ·omega
 rename_i h2
 split at h
 ·omega
 rename_i h3
 split at h
 ·omega
 rename_i h4
 have g:rW l'=true:=by
  unfold rW at h3⊢
  rw[<-hr, <-hb]
  simp only[Bool.and_eq_false_iff,not_or,Bool.not_eq_false] at h3
  rw[h3.1,h3.2.1,Bool.true_and,Bool.true_and,List.all_eq_true]
  intro x hx
  have:=ha x hx
  unfold oV at this⊢
  rw[<-hf]
  exact this
 have p:dF l' (upto l'.notes.length)=true:=by
  rw[Bd (l:=l') (l':=l) (o':=upto l.notes.length) hf.symm hr.symm hb.symm (by rw[GL,GL])]
  simpa using h4
 rw[<-hf,if_neg (by omega),if_neg h2,if_neg (by rw[g];simp),if_neg (by rw[p];simp)]
theorem Gx {l:ax} (h:dV l=0): ∀x∈l.notes,oV l x=true:=by
 unfold dV at h
 split at h
 ·omega
 split at h
 ·omega
 split at h
 ·omega
 rename_i h3
 unfold rW at h3
 simp only[Bool.and_eq_false_iff,not_or,Bool.not_eq_false] at h3
 exact List.all_eq_true.1 h3.2.2
theorem iw.points {S T:bK->Prop} {r:bK} (h:iw S r) (h1: ∀y,S y->T (y.1,y.1)/\T (y.2,y.2)) (h2: ∀z,T z-> ∃y,S y/\y.1<=z.1/\z.2<=y.2):iw T r:=by
 obtain⟨⟨⟨a,ha,ha'⟩,k1⟩,⟨b,hb,hb'⟩,k2⟩:=h
 refine⟨⟨⟨_,(h1 a ha).1,ha'⟩,fun z hz=>?_⟩,⟨_,(h1 b hb).2,hb'⟩,fun z hz=>?_⟩
 ·obtain⟨y,hy,g1,g2⟩:=h2 z hz
  have:=k1 y hy
  omega
 ·obtain⟨y,hy,g1,g2⟩:=h2 z hz
  have:=k2 y hy
  omega
def wH (l:ax) (x:wP):ax:=⟨l.field,l.rate,l.box,l.notes++[x]⟩
theorem NU {f:aO} {ls:List (List Int)} {i:Int} (h0:0<ls.length): ∀k,k<ls.length->iw (fun y=> ∃a∈ls.take (k+1),y=(fK f a i,fK f a i)) (oI f ls i (k+1)):=by
 intro k
 induction k with
 |zero=>
  intro _
  rw[sN h0]
  have e:wid (oI f ls i 0) (fK f ls[0] i)=(fK f ls[0] i,fK f ls[0] i):=by
   unfold oI wid
   simp[List.getD,h0]
  rw[e]
  refine(iw.one _).congr fun x=>?_
  rw[List.take_one,List.head?_eq_getElem?,List.getElem?_eq_getElem h0]
  simp
 |succ k ih=>
  intro hk
  rw[sN hk]
  refine((ih (by omega)).add (fK f ls[k+1] i,fK f ls[k+1] i)).congr fun x=>?_
  rw[List.take_succ_eq_append_getElem hk]
  constructor
  ·rintro(⟨a,ha,rfl⟩|rfl)
   ·exact⟨a,List.mem_append_left _ ha,rfl⟩
   ·exact⟨_,List.mem_append_right _ (List.mem_singleton.2 rfl),rfl⟩
  ·rintro⟨a,ha,rfl⟩
   rcases List.mem_append.1 ha with h|h
   ·exact .inl ⟨a,h,rfl⟩
   ·rw[List.mem_singleton.1 h];exact .inr rfl
theorem Lc {f:aO} (h:aG f []≠[]) {i:Nat} (hi:i<f.ai.toNat):iw (fun y=> ∃a∈aG f [],y=(fK f a (i:Int),fK f a (i:Int))) ((lu f).getD i (0,0)):=by
 have h0:0<(aG f []).length:=List.length_pos_iff.2 h
 have:=NU (f:=f) (i:=(i:Int)) h0 ((aG f []).length-1) (by omega)
 rw[Nat.sub_add_cancel h0,List.take_length] at this
 rw[show(lu f).getD i (0,0)=oI f (aG f []) (i:Int) (aG f []).length from by simp[lu,List.getD,hi]]
 exact this
end Go.Proofs.YtabpkkbiioihaaaGreatDoor
end

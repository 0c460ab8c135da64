/-
  Texts of this claim, packed by a program: VM VN VO VL.
-/
import Derived.Test.YthbpmepjmebolaaGreatDoorPU7
set_option maxHeartbeats 8000000
set_option maxRecDepth 100000
set_option linter.all false
section
namespace Go.Proofs.YthbpmepjmebolaaGreatDoor
open Go.RowKit Go.RG Go.SL Go.Shelf jv Go.TB
theorem abY {l:aQ} (hS:pX l) {t:List Int} (ht:t∈bY l.field []):t.length<=7:=by
 have:=oM ht
 have:=(iK hS.field).qK
 omega
theorem OH {l:aQ} (h:gy l (upto l.notes.length)=true):gy l (nT l)=true/\Inc l.notes.length 0 (nT l)/\ ∀x,Inc l.notes.length 0 x->gy l x=true->oH x (nT l)=false:=
 NU (Eu h)
theorem WU {l:aQ} (h:iU l=0):nT l=[]↔gy l []=true:=by
 have hp:=(pO h).2
 obtain⟨h1,_,h3⟩:=OH hp
 constructor
 ·intro e;rw[e] at h1;exact h1
 ·intro hn
  have:=BC (h3 [] (by simp[Inc]) hn)
  exact kD (by simpa using this)
theorem Iw {l:aQ} (h:iU l=0) (hl:nT l=[]):gX l true=0:=by
 unfold gX
 rw[h,(WU h).1 hl]
 simp
theorem XD (f:bV):(BU f).length=f.aO.toNat:=by simp[BU]
end Go.Proofs.YthbpmepjmebolaaGreatDoor
end

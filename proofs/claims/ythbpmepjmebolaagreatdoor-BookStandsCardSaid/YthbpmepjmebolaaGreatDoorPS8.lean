/-
  Texts of this claim, packed by a program: VM VN VO VL.
-/
import Derived.Test.YthbpmepjmebolaaGreatDoorPS7
set_option maxHeartbeats 8000000
set_option maxRecDepth 100000
set_option linter.all false
section
namespace Go.Proofs.YthbpmepjmebolaaGreatDoor
open Go.RowKit Go.RG Go.SL Go.Shelf ji Go.TB
theorem aa0 {l:aQ} (hS:pg l) {t:List Int} (ht:t∈bQ l.field []):t.length<=7:=by
 have:=nV ht
 have:=(iC hS.field).qw
 omega
theorem NC {l:aQ} (h:fV l (upto l.notes.length)=true):fV l (mY l)=true/\Inc l.notes.length 0 (mY l)/\ ∀x,Inc l.notes.length 0 x->fV l x=true->nK x (mY l)=false:=
 MI (Df h)
theorem Vr {l:aQ} (h:iJ l=0):mY l=[]↔fV l []=true:=by
 have hp:=(oQ h).2
 obtain⟨h1,_,h3⟩:=NC hp
 constructor
 ·intro e;rw[e] at h1;exact h1
 ·intro hn
  have:=Ap (h3 [] (by simp[Inc]) hn)
  exact jT (by simpa using this)
theorem GK {l:aQ} (h:iJ l=0) (hl:mY l=[]):gJ l true=0:=by
 unfold gJ
 rw[h,(Vr h).1 hl]
 simp
theorem V5 (f:bP):(AY f).length=f.aK.toNat:=by simp[AY]
end Go.Proofs.YthbpmepjmebolaaGreatDoor
end

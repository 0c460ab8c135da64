/-
  Texts of this claim, packed by a program: VM VN VO VL.
-/
import Derived.Test.YthbpmepjmebolaaGreatDoorPR7
set_option maxHeartbeats 8000000
set_option maxRecDepth 100000
set_option linter.all false
section
namespace Go.Proofs.YthbpmepjmebolaaGreatDoor
open Go.RowKit Go.RG Go.SL Go.Shelf jv Go.TB
theorem ab9 {l:aQ} (hS:pX l) {t:List Int} (ht:t∈bW l.field []):t.length<=7:=by
 have:=oL ht
 have:=(iJ hS.field).qN
 omega
theorem Ph {l:aQ} (h:gz l (upto l.notes.length)=true):gz l (nR l)=true/\Inc l.notes.length 0 (nR l)/\ ∀x,Inc l.notes.length 0 x->gz l x=true->oG x (nR l)=false:=
 Ov (EN h)
theorem Xk {l:aQ} (h:iR l=0):nR l=[]↔gz l []=true:=by
 have hp:=(pR h).2
 obtain⟨h1,_,h3⟩:=Ph hp
 constructor
 ·intro e;rw[e] at h1;exact h1
 ·intro hn
  have:=BK (h3 [] (by simp[Inc]) hn)
  exact kG (by simpa using this)
theorem IE {l:aQ} (h:iR l=0) (hl:nR l=[]):gX l true=0:=by
 unfold gX
 rw[h,(Xk h).1 hl]
 simp
theorem XR (f:bV):(Cf f).length=f.aO.toNat:=by simp[Cf]
end Go.Proofs.YthbpmepjmebolaaGreatDoor
end

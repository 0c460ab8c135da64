/-
  Texts of this claim, packed by a program: VM VN VO VL.
-/
import Derived.Test.YthbpmepjmebolaaGreatDoorPA7
set_option maxHeartbeats 8000000
set_option maxRecDepth 100000
set_option linter.all false
section
namespace Go.Proofs.YthbpmepjmebolaaGreatDoor
open Go.RowKit Go.RG Go.SL Go.Shelf jC Go.TB
theorem acm {l:aS} (hS:ql l) {t:List Int} (ht:t∈df l.field []):t.length<=7:=by
 have:=oQ ht
 have:=(iI hS.field).qP
 omega
theorem OZ {l:aS} (h:gz l (upto l.notes.length)=true):gz l (nP l)=true/\Inc l.notes.length 0 (nP l)/\ ∀x,Inc l.notes.length 0 x->gz l x=true->oG x (nP l)=false:=
 Oi (Ew h)
theorem Xe {l:aS} (h:iQ l=0):nP l=[]↔gz l []=true:=by
 have hp:=(qf h).2
 obtain⟨h1,_,h3⟩:=OZ hp
 constructor
 ·intro e;rw[e] at h1;exact h1
 ·intro hn
  have:=BG (h3 [] (by simp[Inc]) hn)
  exact kF (by simpa using this)
theorem IL {l:aS} (h:iQ l=0) (hl:nP l=[]):gW l true=0:=by
 unfold gW
 rw[h,(Xe h).1 hl]
 simp
theorem XL (f:cZ):(BX f).length=f.aO.toNat:=by simp[BX]
end Go.Proofs.YthbpmepjmebolaaGreatDoor
end

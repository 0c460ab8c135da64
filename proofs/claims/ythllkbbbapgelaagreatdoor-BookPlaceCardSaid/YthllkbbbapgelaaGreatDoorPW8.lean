/-
  Texts of this claim, packed by a program: VM VN VO VL.
-/
import Derived.Test.YthllkbbbapgelaaGreatDoorPW7
set_option maxHeartbeats 8000000
set_option maxRecDepth 100000
set_option linter.all false
section
namespace Go.Proofs.YthllkbbbapgelaaGreatDoor
open Go.RowKit Go.RG Go.SL Go.Shelf jy Go.TB
theorem abK {l:aQ} (hS:pW l) {t:List Int} (ht:t∈bV l.field []):t.length<=7:=by
 have:=oJ ht
 have:=(iH hS.field).qH
 omega
theorem Oy {l:aQ} (h:gq l (upto l.notes.length)=true):gq l (nI l)=true/\Inc l.notes.length 0 (nI l)/\ ∀x,Inc l.notes.length 0 x->gq l x=true->nX x (nI l)=false:=
 NQ (Eo h)
theorem Wp {l:aQ} (h:iO l=0):nI l=[]↔gq l []=true:=by
 have hp:=(pM h).2
 obtain⟨h1,_,h3⟩:=Oy hp
 constructor
 ·intro e;rw[e] at h1;exact h1
 ·intro hn
  have:=Bi (h3 [] (by simp[Inc]) hn)
  exact kG (by simpa using this)
theorem Ik {l:aQ} (h:iO l=0) (hl:nI l=[]):gQ l true=0:=by
 unfold gQ
 rw[h,(Wp h).1 hl]
 simp
theorem Xh (f:bU):(BJ f).length=f.aK.toNat:=by simp[BJ]
end Go.Proofs.YthllkbbbapgelaaGreatDoor
end

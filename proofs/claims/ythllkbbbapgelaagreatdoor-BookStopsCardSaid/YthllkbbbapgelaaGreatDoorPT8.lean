/-
  Texts of this claim, packed by a program: VM VN VO VL.
-/
import Derived.Test.YthllkbbbapgelaaGreatDoorPT7
set_option maxHeartbeats 8000000
set_option maxRecDepth 100000
set_option linter.all false
section
namespace Go.Proofs.YthllkbbbapgelaaGreatDoor
open Go.RowKit Go.RG Go.SL Go.Shelf jl Go.TB
theorem aa9 {l:aQ} (hS:pO l) {t:List Int} (ht:t∈bT l.field []):t.length<=7:=by
 have:=oG ht
 have:=(iF hS.field).qH
 omega
theorem NR {l:aQ} (h:gq l (upto l.notes.length)=true):gq l (nz l)=true/\Inc l.notes.length 0 (nz l)/\ ∀x,Inc l.notes.length 0 x->gq l x=true->nR x (nz l)=false:=
 MZ (Dx h)
theorem VH {l:aQ} (h:iL l=0):nz l=[]↔gq l []=true:=by
 have hp:=(pG h).2
 obtain⟨h1,_,h3⟩:=NR hp
 constructor
 ·intro e;rw[e] at h1;exact h1
 ·intro hn
  have:=AO (h3 [] (by simp[Inc]) hn)
  exact ku (by simpa using this)
theorem Ha {l:aQ} (h:iL l=0) (hl:nz l=[]):gV l true=0:=by
 unfold gV
 rw[h,(VH h).1 hl]
 simp
theorem WG (f:bQ):(Bf f).length=f.aK.toNat:=by simp[Bf]
end Go.Proofs.YthllkbbbapgelaaGreatDoor
end

/-
  Texts of this claim, packed by a program: VM VN VO VL.
-/
import Derived.Test.YthllkbbbapgelaaGreatDoorPG7
set_option maxHeartbeats 8000000
set_option maxRecDepth 100000
set_option linter.all false
section
namespace Go.Proofs.Z
open Go.RowKit Go.RG Go.SL Go.Shelf ig Go.TB
theorem Xr {l:aN} (hS:nz l) {t:List Int} (ht:t∈bH l.field []):t.length<=7:=by
 have:=mr ht;have:=(gy hS.field).og;omega
theorem J8 {l:aN} (h:eY l (upto l.notes.length)=true):eY l (lG l)=true/\LZ l.notes.length 0 (lG l)/\ ∀x,LZ l.notes.length 0 x->eY l x=true->lX x (lG l)=false:=
 Jv (Am h)
theorem Q5 {l:aN} (h:gH l=0):lG l=[]↔eY l []=true:=by
 have hp:=(ng h).2;obtain⟨h1,_,h3⟩:=J8 hp;constructor
 ·intro e;rw[e] at h1;exact h1
 ·intro hn;have:=yl (h3 [] (by simp[LZ]) hn);exact jh (by simpa using this)
theorem Dl {l:aN} (h:gH l=0) (hl:lG l=[]):fI l true=0:=by
 unfold fI;rw[h,(Q5 h).1 hl];simp
theorem RL (f:bG):(yH f).length=f.aJ.toNat:=by simp[yH]
end Go.Proofs.Z
end

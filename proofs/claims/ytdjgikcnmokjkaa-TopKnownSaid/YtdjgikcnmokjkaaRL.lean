/-
  The walk of TopKnown, all cases.
-/
import Derived.WalkKit
import Derived.WalkLawsBesides
import Derived.WalkSpells
import Derived.Outline
import Derived.Handy
import Derived.KernelRfl
import Derived.Lib.Hide
import Derived.Test.YtdjgikcnmokjkaaRKF
import Derived.Test.YtdjgikcnmokjkaaRKT
namespace Go.Proofs.Ytdjgikcnmokjkaa
open Go.RowKit Go.RG Go.SL Go.Shelf Cou Go.TB

theorem TopKnown_any (f : FieldD) (tv : Value) (r8 wh ot : Int) (w : World) (ht : TalliesAt w tv f.tallies) (h0 : 0 ≤ r8 ∧ r8 ≤ 255) (h1 : 0 ≤ wh ∧ wh ≤ 65535) (h2 : 0 ≤ ot ∧ ot ≤ 65535) :
    Calls Try.prog 3 #[fv f tv, .int .u8 r8, .int .u16 wh, .int .u16 ot] w (PV (.bool true) w) := by
  cases hth : thinF f
  · exact TopKnown_thin f tv r8 wh ot w ht h0 h1 h2 hth
  by_cases hf0 : faultF f = 0
  case neg => exact TopKnown_fault f tv r8 wh ot w ht h0 h1 h2 hth hf0
  by_cases hts0 : truthsF f [] = []
  · exact TopKnown_none f tv r8 wh ot w ht h0 h1 h2 hth hf0 hts0
  cases his : proveTruthB f (mixL (settleF f) ((rtruths f).getD (wh % (rtruths f).length).toNat []) ((rtruths f).getD (ot % (rtruths f).length).toNat []) (settleF f).length)
  · exact TopKnown_false f tv r8 wh ot w ht h0 h1 h2 hth hf0 hts0 his
  · exact TopKnown_true f tv r8 wh ot w ht h0 h1 h2 hth hf0 hts0 his
end Go.Proofs.Ytdjgikcnmokjkaa

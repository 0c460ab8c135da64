/-
  The walk of WageFirst.
-/
import Derived.WalkKit
import Derived.WalkLawsBesides
import Derived.WalkSpells
import Derived.Outline
import Derived.Handy
import Derived.KernelRfl
import Derived.Lib.Hide
import Derived.Test.YtdjgikcnmokjkaaGreatZE
import Derived.Test.YtdjgikcnmokjkaaGreatUL
namespace Go.Proofs.YtdjgikcnmokjkaaGreat
open Go.RowKit Go.RG Go.SL Go.Shelf Cou Go.TB
set_option maxHeartbeats 400000
set_option maxRecDepth 10000

theorem pow_cast (n : Nat) : (2 : Int) ^ n - 1 = ((2 ^ n - 1 : Nat) : Int) := by
  have := Nat.one_le_two_pow (n := n)
  rw [Int.natCast_sub this]
  simp
theorem pow_cast2 (n : Nat) : 2 * (2 : Int) ^ n - 1 = ((2 ^ (n + 1) - 1 : Nat) : Int) := by
  rw [← pow_cast, Int.pow_succ]
  omega
theorem some_at (l : LedgerD) (tv nv : Value) (bits : Int) (m : Nat) (w : World) (hb : bits = (m : Int)) (ht : TalliesAt w tv l.field.tallies) (hn : TriplesAt w nv l.notes) (hl : l.notes.length ≤ 7) (hm : bits ≤ 1000) :
    Calls Tryz.prog 44 #[lv l tv nv, iv bits] w (PSomeG l m tv w) := by
  subst hb
  exact lawSome_any l tv nv m w ht hn hl hm

set_option maxHeartbeats 8000000 in
theorem WageFirst_any (l : LedgerD) (tv nv : Value) (w : World) (ht : TalliesAt w tv l.field.tallies) (hn : TriplesAt w nv l.notes) :
    Calls Tryz.prog 7 #[lv l tv nv] w (PV (.bool true) w) := by
  have HA := Lib.hid (And.intro ht hn)
  have HR := Lib.hid (ready_any l tv nv (w.alloc (.cells (lcells l tv nv) 30)) (ht.alloc _) (hn.alloc _))
  obtain ⟨on, cn, rfl⟩ := hn.open
  clear ht hn
  obtain ⟨rd, hrd⟩ : ∃ rd, readyL l = rd := ⟨_, rfl⟩
  rw [hrd] at HR
  have HRD := Lib.hid hrd
  clear hrd
  go_enter Tryz.func7, Tryz.ntmps7
  go_wp2_with fail
  refine HR.out.mono ?_
  rintro e W1 ⟨rfl, hb⟩
  have hk0 := (hb.block w.heap.size (by simp)).trans (heap_new0 w (.cells (lcells l tv (.slice on l.notes.length cn)) 30))
  have HB1 := Lib.hid (And.intro (show Below w.heap.size w W1 from (by repeat (first | exact Below.refl _ _ | assumption | refine bgo ?_ (by assumption) | refine bgoAlloc ?_ _ | refine bgoDrew ?_ | refine bgoSet ?_ (by simp; omega) _))) hk0)
  obtain ⟨c0, f0, l0⟩ := cells_of_block hk0
  clear hb hk0
  cases rd
  · clear c0 f0 l0
    go_wp2_with fail
    refine (awake_any _).mono ?_
    rintro e W2 ⟨rfl, hb⟩
    have HB2 := Lib.hid (bgo HB1.out.1 hb)
    clear hb
    go_wp2_with fail
    go_returns
    exact ⟨by simp, HB2.out⟩
  obtain ⟨hz, hS, ht5, hn5, _, _⟩ := readyL_facts HRD.out
  have hw0 := (soundF_of hS.field).weed0
  have hw3 := (soundF_of hS.field).weed1
  have HM := Lib.hid (And.intro hz (And.intro hS (And.intro ht5 (And.intro hn5 (And.intro hw0 hw3)))))
  clear hz hS ht5 hw0 hw3
  have HFP := Lib.hid (first_plain HM.out.1)
  go_wp2_with fail
  refine (Ledger_any l tv (.slice on l.notes.length cn) W1 (HA.out.1.below HB1.out.1 (Nat.le_refl _)) (HA.out.2.below HB1.out.1 (Nat.le_refl _)) (by have := HM.out.2.2.1; omega) (by have := HM.out.2.2.2.1; omega)).mono ?_
  rintro e W2 ⟨a2, b2, rfl, ht2, hn2, hb⟩
  have HL2 := Lib.hid (And.intro ht2 hn2)
  clear ht2 hn2
  have hk0 := (hb.block _ l0).trans HB1.out.2
  have HB2 := Lib.hid (And.intro (bgo HB1.out.1 hb) hk0)
  clear hb c0 f0
  obtain ⟨c0, f0, l0⟩ := cells_of_block hk0
  clear hk0
  go_wp2_with fail
  refine (First_any l a2 b2 W2 HL2.out.1 HL2.out.2 (by have := HM.out.2.2.2.2; omega)).mono ?_
  rintro e W3 ⟨hb, ⟨hne, _⟩ | ⟨_, rfl⟩⟩
  · exact absurd HM.out.1 hne
  have hk0 := (hb.block _ l0).trans HB2.out.2
  have HB3 := Lib.hid (And.intro (bgo HB2.out.1 hb) hk0)
  clear hb c0 f0
  obtain ⟨c0, f0, l0⟩ := cells_of_block hk0
  clear hk0
  obtain ⟨hw, hask⟩ | ⟨k, hw, hk, ha1, ha2⟩ := HFP.out
  · have hv : firstWv l = 0 ∧ firstWe l = 7 := by unfold firstWv firstWe; rw [hw]; exact ⟨rfl, rfl⟩
    rw [hv.1, hv.2]
    have HASK := Lib.hid hask
    clear hv hw hask
    go_wp2_with fail
    refine (Ledger_any l tv (.slice on l.notes.length cn) W3 (HA.out.1.below HB3.out.1 (Nat.le_refl _)) (HA.out.2.below HB3.out.1 (Nat.le_refl _)) (by have := HM.out.2.2.1; omega) (by have := HM.out.2.2.2.1; omega)).mono ?_
    rintro e W4 ⟨a4, b4, rfl, ht4, hn4, hb⟩
    have HL4 := Lib.hid (And.intro ht4 hn4)
    clear ht4 hn4
    have hk0 := (hb.block _ l0).trans HB3.out.2
    have HB4 := Lib.hid (And.intro (bgo HB3.out.1 hb) hk0)
    clear hb c0 f0
    obtain ⟨c0, f0, l0⟩ := cells_of_block hk0
    clear hk0
    go_wp2_with fail
    refine (Paid_any (l) a4 b4 W4 HL4.out.1 HL4.out.2 (by show -1000 ≤ l.field.weeders ∧ l.field.weeders ≤ 1000; have := HM.out.2.2.2.2; omega)).mono ?_
    rintro e W5 ⟨hb, ⟨hne, _⟩ | ⟨_, u5, rfl, hu5⟩⟩
    · exact absurd (HASK.out) hne
    obtain ⟨uo5, uc5, rfl⟩ := hu5.open
    have HU5 := Lib.hid hu5
    clear hu5
    have hk0 := (hb.block _ l0).trans HB4.out.2
    have HB5 := Lib.hid (And.intro (bgo HB4.out.1 hb) hk0)
    clear hb c0 f0
    obtain ⟨c0, f0, l0⟩ := cells_of_block hk0
    clear hk0
    go_wp2_with fail
    refine (awake_any _).mono ?_
    rintro e W6 ⟨rfl, hb⟩
    have HB6 := Lib.hid (bgo HB5.out.1 hb)
    clear hb
    go_wp2_with fail
    go_returns
    exact ⟨by simp, HB6.out⟩
  · have hv : firstWv l = k ∧ firstWe l = 0 := by unfold firstWv firstWe; rw [hw]; exact ⟨rfl, rfl⟩
    rw [hv.1, hv.2]
    have HA1 := Lib.hid ha1
    have HA2 := Lib.hid ha2
    clear hv hw ha1 ha2
    have hk5 : k ≤ 5 := by omega
    obtain ⟨hp1, hp2⟩ := pow_bd hk5
    have hin : inB (k : Int) 0 ((l.notes.length : Int) - 1) = true := by simp [inB]; omega
    have HIN := Lib.hid (fun W : World => rIn_any (k : Int) 0 ((l.notes.length : Int) - 1) W)
    rw [hin] at HIN
    clear hin
    go_wp2_with fail
    refine (HIN.out _).mono ?_
    rintro e W4 ⟨rfl, hb⟩
    have hk0 := (hb.block _ l0).trans HB3.out.2
    have HB4 := Lib.hid (And.intro (bgo HB3.out.1 hb) hk0)
    clear hb c0 f0
    obtain ⟨c0, f0, l0⟩ := cells_of_block hk0
    clear hk0
    go_wp2_with fail
    refine (some_at l tv (.slice on l.notes.length cn) (2 ^ k - 1) (2 ^ k - 1) W4 (pow_cast k) (HA.out.1.below HB4.out.1 (Nat.le_refl _)) (HA.out.2.below HB4.out.1 (Nat.le_refl _)) (by have := HM.out.2.2.2.1; omega) (by omega)).mono ?_
    rintro e W5 ⟨c5, rfl, hc5, hb⟩
    have HC5 := Lib.hid hc5
    clear hc5
    have hk0 := (hb.block _ l0).trans HB4.out.2
    have HB5 := Lib.hid (And.intro (bgo HB4.out.1 hb) hk0)
    clear hb c0 f0
    obtain ⟨c0, f0, l0⟩ := cells_of_block hk0
    clear hk0
    go_wp2_with fail
    refine (Ledger_any (someG l (2 ^ k - 1)) tv c5 W5 (HA.out.1.below HB5.out.1 (Nat.le_refl _)) HC5.out (by have := HM.out.2.2.1; show l.field.tallies.length ≤ 1000; omega) (by have := someTo_len (2 ^ k - 1) l.notes.length l.notes; have := HM.out.2.2.2.1; show (someTo (2 ^ k - 1) l.notes l.notes.length).length ≤ 1000; omega)).mono ?_
    rintro e W6 ⟨a6, b6, rfl, ht6, hn6, hb⟩
    have HL6 := Lib.hid (And.intro ht6 hn6)
    clear ht6 hn6
    have hk0 := (hb.block _ l0).trans HB5.out.2
    have HB6 := Lib.hid (And.intro (bgo HB5.out.1 hb) hk0)
    clear hb c0 f0
    obtain ⟨c0, f0, l0⟩ := cells_of_block hk0
    clear hk0
    go_wp2_with fail
    refine (Paid_any (someG l (2 ^ k - 1)) a6 b6 W6 HL6.out.1 HL6.out.2 (by show -1000 ≤ l.field.weeders ∧ l.field.weeders ≤ 1000; have := HM.out.2.2.2.2; omega)).mono ?_
    rintro e W7 ⟨hb, ⟨hne, _⟩ | ⟨_, u7, rfl, hu7⟩⟩
    · exact absurd (HA1.out) hne
    obtain ⟨uo7, uc7, rfl⟩ := hu7.open
    have HU7 := Lib.hid hu7
    clear hu7
    have hk0 := (hb.block _ l0).trans HB6.out.2
    have HB7 := Lib.hid (And.intro (bgo HB6.out.1 hb) hk0)
    clear hb c0 f0
    obtain ⟨c0, f0, l0⟩ := cells_of_block hk0
    clear hk0
    go_wp2_with fail
    refine (some_at l tv (.slice on l.notes.length cn) (2 * 2 ^ k - 1) (2 ^ (k + 1) - 1) W7 (pow_cast2 k) (HA.out.1.below HB7.out.1 (Nat.le_refl _)) (HA.out.2.below HB7.out.1 (Nat.le_refl _)) (by have := HM.out.2.2.2.1; omega) (by omega)).mono ?_
    rintro e W8 ⟨c8, rfl, hc8, hb⟩
    have HC8 := Lib.hid hc8
    clear hc8
    have hk0 := (hb.block _ l0).trans HB7.out.2
    have HB8 := Lib.hid (And.intro (bgo HB7.out.1 hb) hk0)
    clear hb c0 f0
    obtain ⟨c0, f0, l0⟩ := cells_of_block hk0
    clear hk0
    go_wp2_with fail
    refine (Ledger_any (someG l (2 ^ (k + 1) - 1)) tv c8 W8 (HA.out.1.below HB8.out.1 (Nat.le_refl _)) HC8.out (by have := HM.out.2.2.1; show l.field.tallies.length ≤ 1000; omega) (by have := someTo_len (2 ^ (k + 1) - 1) l.notes.length l.notes; have := HM.out.2.2.2.1; show (someTo (2 ^ (k + 1) - 1) l.notes l.notes.length).length ≤ 1000; omega)).mono ?_
    rintro e W9 ⟨a9, b9, rfl, ht9, hn9, hb⟩
    have HL9 := Lib.hid (And.intro ht9 hn9)
    clear ht9 hn9
    have hk0 := (hb.block _ l0).trans HB8.out.2
    have HB9 := Lib.hid (And.intro (bgo HB8.out.1 hb) hk0)
    clear hb c0 f0
    obtain ⟨c0, f0, l0⟩ := cells_of_block hk0
    clear hk0
    go_wp2_with fail
    refine (Paid_any (someG l (2 ^ (k + 1) - 1)) a9 b9 W9 HL9.out.1 HL9.out.2 (by show -1000 ≤ l.field.weeders ∧ l.field.weeders ≤ 1000; have := HM.out.2.2.2.2; omega)).mono ?_
    rintro e W10 ⟨hb, ⟨_, rfl⟩ | ⟨hne, _⟩⟩
    case inr => exact absurd ((HA2.out).symm.trans hne) (by decide)
    rw [HA2.out]
    have hk0 := (hb.block _ l0).trans HB9.out.2
    have HB10 := Lib.hid (And.intro (bgo HB9.out.1 hb) hk0)
    clear hb c0 f0
    obtain ⟨c0, f0, l0⟩ := cells_of_block hk0
    clear hk0
    go_wp2_with fail
    refine (awake_any _).mono ?_
    rintro e W11 ⟨rfl, hb⟩
    have HB11 := Lib.hid (bgo HB10.out.1 hb)
    clear hb
    go_wp2_with fail
    go_returns
    exact ⟨by simp, HB11.out⟩
end Go.Proofs.YtdjgikcnmokjkaaGreat

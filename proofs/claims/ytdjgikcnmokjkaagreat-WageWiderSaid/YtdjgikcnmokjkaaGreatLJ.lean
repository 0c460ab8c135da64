/-
  The walk of WageWider.
-/
import Derived.WalkKit
import Derived.WalkLawsBesides
import Derived.WalkSpells
import Derived.Outline
import Derived.Handy
import Derived.KernelRfl
import Derived.Lib.Hide
import Derived.BigRegion
import Derived.Deep.Cut
import Derived.Test.YtdjgikcnmokjkaaGreatZF
import Derived.Test.YtdjgikcnmokjkaaGreatVP
import Derived.Test.YtdjgikcnmokjkaaGreatKF
import Derived.Test.YtdjgikcnmokjkaaGreatZI
namespace Go.Proofs.YtdjgikcnmokjkaaGreat
open Go.RowKit Go.RG Go.SL Go.Shelf Cou Go.TB
set_option maxHeartbeats 400000
set_option maxRecDepth 10000

theorem tNotes9j : SliceT Tryz.prog 28 77 (xv (0, 0, 0)) 3 24 := ⟨Tryz.underlying28, by kernel_rfl, rfl, by omega⟩
theorem gany9 {α β : Type} {Q : α → β → World → Prop} {e : α} {a : β} {W : World} (h : ∀ X, X = W → Q e a X) : Q e a W := h W rfl
attribute [local go_sem ↓] min_goZ max_goZ

theorem triple_set : ∀ (l : List Rdg) (J : Nat) (y0 y1 y2 a b : Int), l[J]? = some (y0, y1, y2) → ((tripleCells l).set (J * 3 + 1) (iv a)).set (J * 3 + 1 + 1) (iv b) = tripleCells (l.set J (y0, a, b)) := by
  have e : ∀ (x : Rdg) (l : List Rdg), tripleCells (x :: l) = iv x.1 :: iv x.2.1 :: iv x.2.2 :: tripleCells l := fun x l => by simp [tripleCells]
  intro l
  induction l with
  | nil => intro J y0 y1 y2 a b h; simp at h
  | cons x l ih =>
    intro J y0 y1 y2 a b h
    cases J with
    | zero =>
      have hx : x = (y0, y1, y2) := by simpa using h
      subst hx
      rw [e, List.set_cons_zero, e]
      rfl
    | succ J =>
      have h' : l[J]? = some (y0, y1, y2) := by simpa using h
      rw [show (x :: l).set (J + 1) (y0, a, b) = x :: l.set J (y0, a, b) from rfl, e, e, ← ih J y0 y1 y2 a b h', show (J + 1) * 3 + 1 = (J * 3 + 1) + 1 + 1 + 1 from by omega]
      simp only [List.set_cons_succ]

set_option maxHeartbeats 16000000 in
theorem WageWider_any (l : LedgerD) (tv nv : Value) (wh bn : Int) (w : World) (ht : TalliesAt w tv l.field.tallies) (hn : TriplesAt w nv l.notes) (hwh : 0 ≤ wh ∧ wh ≤ 255) (hbn : 0 ≤ bn ∧ bn ≤ 255) :
    Calls Tryz.prog 6 #[lv l tv nv, .int .u8 wh, .int .u8 bn] w (PV (.bool true) w) := by
  have HTV := Lib.hid ht.open
  have HA := Lib.hid (And.intro ht hn)
  have HR := Lib.hid (ready_any l tv nv (w.alloc (.cells (lcells l tv nv) 30)) (ht.alloc _) (hn.alloc _))
  obtain ⟨on, cn, rfl⟩ := hn.open
  clear ht hn
  obtain ⟨rd, hrd⟩ : ∃ rd, readyL l = rd := ⟨_, rfl⟩
  rw [hrd] at HR
  have HRD := Lib.hid hrd
  clear hrd
  go_enter Tryz.func6, Tryz.ntmps6
  go_wp2_with fail
  refine HR.out.mono ?_
  rintro e W1 ⟨rfl, hb⟩
  have hk0 := (hb.block w.heap.size (by simp)).trans (heap_new0 w (.cells (lcells l tv (.slice on l.notes.length cn)) 30))
  have HB1 := Lib.hid (And.intro (show Below w.heap.size w W1 from (by repeat (first | exact Below.refl _ _ | assumption | refine bgo ?_ (by assumption) | refine bgoAlloc ?_ _ | refine bgoDrew ?_ | refine bgoSet ?_ (by simp; omega) _))) hk0)
  obtain ⟨c0, f0, l0⟩ := cells_of_block hk0
  clear hb hk0
  cases rd
  · clear c0 f0 l0
    go_wp2_with fail
    refine (awake_any _).mono ?_
    rintro e W2 ⟨rfl, hb⟩
    have HB2 := Lib.hid (bgo HB1.out.1 hb)
    clear hb
    go_wp2_with fail
    go_returns
    exact ⟨by simp, HB2.out⟩
  obtain ⟨hz, hS, ht5, hn5, _, _⟩ := readyL_facts HRD.out
  have hw0 := (soundF_of hS.field).weed0
  have hw3 := (soundF_of hS.field).weed1
  have HM := Lib.hid (And.intro hz (And.intro hS (And.intro ht5 (And.intro hn5 (And.intro hw0 hw3)))))
  clear hz hS ht5 hw0 hw3
  have HK1 := Lib.hid (Keeps.one HB1.out.1 HB1.out.2)
  obtain ⟨ot, ct, htv⟩ := HTV.out
  subst htv
  obtain ⟨N, hN⟩ : ∃ N, l.notes.length = N := ⟨_, rfl⟩
  have HNN := Lib.hid hN
  obtain ⟨lo, hlo⟩ : ∃ lo, bn % 5 = lo := ⟨_, rfl⟩
  have hlo4 : 0 ≤ lo ∧ lo ≤ 4 := by omega
  have hlot : bn.tmod 5 = lo := by rw [Int.tmod_eq_emod_of_nonneg hbn.1]; exact hlo
  obtain ⟨b5, hb5⟩ : ∃ b5, bn / 5 = b5 := ⟨_, rfl⟩
  have hb50 : 0 ≤ b5 ∧ b5 ≤ 51 := by omega
  have hbt : bn.tdiv 5 = b5 := by rw [Int.tdiv_eq_ediv_of_nonneg hbn.1]; exact hb5
  obtain ⟨hi, hhi⟩ : ∃ hi, b5 % 5 = hi := ⟨_, rfl⟩
  have hhi4 : 0 ≤ hi ∧ hi ≤ 4 := by omega
  have hhit : b5.tmod 5 = hi := by rw [Int.tmod_eq_emod_of_nonneg hb50.1]; exact hhi
  obtain ⟨K, hK, hKN⟩ : ∃ K : Nat, wh.tmod ((N : Int) + 1) = (K : Int) ∧ K < N + 1 := by
    rw [Int.tmod_eq_emod_of_nonneg hwh.1]
    have g1 := Int.emod_nonneg wh (show (N : Int) + 1 ≠ 0 by omega)
    have g2 := Int.emod_lt_of_pos wh (show (0 : Int) < (N : Int) + 1 by omega)
    exact ⟨(wh % ((N : Int) + 1)).toNat, by omega, by omega⟩
  have hnz : ((N : Int) + 1 == 0) = false := by rw [beq_eq_false_iff_ne]; omega
  have hnz' : ¬ (N : Int) + 1 = 0 := by omega
  have HAR := Lib.hid (And.intro hlot (And.intro hbt (And.intro hhit (And.intro hK (And.intro hnz hnz')))))
  rw [hN] at HA HK1 hn5 ⊢
  have HSO := Lib.hid (And.intro HM.out.2.1 HM.out.1)
  have hbx := HSO.out.1.box
  clear hN hlo hb5 hhi hlot hbt hhit hK hnz hnz' c0 f0
  obtain ⟨c0, f0, _⟩ := cells_of_block HK1.out.blk
  go_upto_region 4 with (fail)
  refine gworld fun W2 hW2 => ?_
  have hx : W2.heap[W1.heap.size]? = some (.cells (lcells l (.slice ot l.field.tallies.length ct) (.slice on N cn)) 30 (0, 0)) := by rw [hW2]; exact heap_new0 _ _
  have hb : Below W1.heap.size W1 W2 := by rw [hW2]; exact bgoAlloc (Below.refl _ _) _
  have HK2 := Lib.hid ((HK1.out.next hb).more hx (last_block hx))
  clear hx hb hW2 c0 f0
  obtain ⟨c0, f0, _⟩ := cells_of_block HK2.out.blk.2
  obtain ⟨c1, f1, l1⟩ := cells_of_block HK2.out.blk.1
  obtain ⟨b1, hb1⟩ : ∃ b1, W1.heap.size = b1 := ⟨_, rfl⟩
  have hwb1 : w.heap.size < b1 := by omega
  rw [hb1] at c1 f1 l1 HK2 ⊢
  have HSR : Hid (SlAt 3 W2 (.slice on N cn) N (tripleCells l.notes)) := Lib.hid (by
    have := HA.out.2.below HK2.out.below (Nat.le_refl _)
    unfold TriplesAt at this
    rw [HNN.out] at this
    exact this)
  go_wp2_with (at_builtin; go_loud (refine wpList_append_at rfl _ _ tNotes9j rfl W2.heap.size (.slice (some ⟨W2.heap.size, 0, none⟩) 0 0) 0 [] rfl ⟨by simp, .inr ⟨_, 0, #[], rfl, Nat.le_refl _, heap_new0 _ _, Nat.le_refl _, Nat.zero_le _, by simp, by simp⟩⟩ (.slice on N cn) N (tripleCells l.notes) rfl (HSR.out.alloc _) (one_triples _) (by omega) (by omega) (by simp) ?_))
  intro v' W3 hown3 hgr3 hcase3
  (try rw [Nat.zero_add] at hown3)
  (try rw [List.nil_append] at hown3)
  obtain ⟨o3, c3, rfl⟩ := owns_slice hown3
  have hB3 : Below W2.heap.size W2 W3 := Below.grown (bgoAlloc (Below.refl _ _) _) hgr3 (by simp) (fun g e => by simp [Value.ownBlock] at e; omega)
  have hx3 := (hB3.block b1 l1).trans HK2.out.blk.1
  have H3 := Lib.hid (And.intro hown3 (And.intro hB3 hx3))
  have HK3 := Lib.hid (HK2.out.next hB3)
  clear hown3 hgr3 hcase3 hB3 c0 f0 c1 f1
  obtain ⟨c0, f0, _⟩ := cells_of_block HK3.out.blk.2
  obtain ⟨c1, f1, l13⟩ := cells_of_block hx3
  clear hx3
  go_upto_region 5 with (fail)
  refine gworld fun W4 hW4 => ?_
  have hx4 : W4.heap[b1]? = some (.cells (lcells l (.slice ot l.field.tallies.length ct) (.slice o3 N c3)) 30 (0, 0)) := by rw [hW4]; exact set_block H3.out.2.2 _
  have hl4 : W4.heap[w.heap.size]? = some (.cells (lcells l (.slice ot l.field.tallies.length ct) (.slice on N cn)) 30 (0, 0)) := by rw [hW4]; exact (Below.heap_setCell _ _ _ _ (show w.heap.size ≠ b1 by omega)).trans HK3.out.blk.2
  have hB4 : Below w.heap.size w W4 := by rw [hW4]; exact bgoSet HK3.out.below (by show w.heap.size ≤ b1; omega) _
  have ho4 : W4.ownsRow W2.heap.size 77 3 (.slice o3 N c3) N (tripleCells l.notes) := by
    rw [hW4]
    exact owns_keep H3.out.1 fun g hg => Below.heap_setCell _ _ _ _ (by have := (owns_ge H3.out.1 g hg).1; show g ≠ b1; omega)
  have H4 := Lib.hid (And.intro hx4 (And.intro hl4 (And.intro hB4 ho4)))
  clear hW4 c0 f0 c1 f1 l13 hx4 hl4 hB4 ho4
  obtain ⟨c1, f1, l14⟩ := cells_of_block H4.out.1
  obtain ⟨hlot, hbt, hhit, hK, hnz, hnz'⟩ := HAR.out
  have hdr : ∀ Y : World, Y.drew.heap = Y.heap := fun _ => rfl
  cases K with
  | zero =>
    go_wp2_with fail
    go_region
    refine gany9 fun W5 hW5 => ?_
    have hT5 : TriplesAt W5 (.slice o3 N c3) (wideB l lo hi).notes := by
      have := SlAt.of_owns (owns_keep (w' := W5) H4.out.2.2.2 fun g hg => by
        have := (owns_ge H4.out.2.2.2 g hg).1
        rw [hW5, hdr]
        exact (Below.heap_setCell _ _ _ _ (show g ≠ b1 by omega)).trans (Below.heap_setCell _ _ _ _ (show g ≠ b1 by omega)))
      show TriplesAt W5 (.slice o3 N c3) l.notes
      unfold TriplesAt
      rw [HNN.out]
      exact this
    have hx5 : W5.heap[b1]? = some (.cells (lcells (wideB l lo hi) (.slice ot l.field.tallies.length ct) (.slice o3 N c3)) 30 (0, 0)) := by
      rw [hW5, hdr]
      have k := set_block (o := 7) (set_block (o := 6) H4.out.1 (iv (max 0 (l.box.1 - lo)))) (iv (min 2000 (l.box.2 + hi)))
      simp only [List.setIfInBounds_toArray, List.set_cons_succ, List.set_cons_zero] at k
      exact k
    have hl5 : W5.heap[w.heap.size]? = some (.cells (lcells l (.slice ot l.field.tallies.length ct) (.slice on N cn)) 30 (0, 0)) := by
      rw [hW5, hdr]
      exact (Below.heap_setCell _ _ _ _ (show w.heap.size ≠ b1 by omega)).trans ((Below.heap_setCell _ _ _ _ (show w.heap.size ≠ b1 by omega)).trans H4.out.2.1)
    have hB5 : Below w.heap.size w W5 := by
      rw [hW5]
      exact bgoDrew (bgoSet (bgoSet H4.out.2.2.1 (by show w.heap.size ≤ b1; omega) _) (by show w.heap.size ≤ b1; omega) _)
    have HK5 := Lib.hid (((Keeps.one hB5 hl5).more hT5 (last_at hT5)).more hx5 (last_block hx5))
    have hxi : faultW (wideB l lo hi) = 0 ∧ (∀ o, WidG l (wideB l lo hi) o o) ∧ (wideB l lo hi).notes.length = N ∧ (wideB l lo hi).field = l.field ∧ TalliesAt w (.slice ot l.field.tallies.length ct) (wideB l lo hi).field.tallies := ⟨wideB_fault HSO.out.2 hlo4.1 hhi4.1, wideB_wid HSO.out.1 hlo4.1 hhi4.1, HNN.out, rfl, HA.out.1⟩
    clear hW5 hT5 hx5 hl5 hB5 c1 f1 l14 hlot hbt hhit hK hnz hnz' hdr
    generalize wideB l lo hi = X at *
    have HXI := Lib.hid hxi
    clear hxi
    obtain ⟨c0, f0, l0⟩ := cells_of_block HK5.out.blk.2.2
    obtain ⟨c1, f1, l1⟩ := cells_of_block HK5.out.blk.1
    have hle := wider_leave HM.out.1 HXI.out.1 (by rw [HXI.out.2.2.1, HNN.out]) HXI.out.2.1
    have hpl := wider_plain HM.out.1 HXI.out.1 (by rw [HXI.out.2.2.1, HNN.out]) HXI.out.2.1
    obtain ⟨L1, hL1⟩ : ∃ L, leaveW l = L := ⟨_, rfl⟩
    obtain ⟨L2, hL2⟩ : ∃ L, leaveW X = L := ⟨_, rfl⟩
    rw [hL1, hL2] at hle
    rw [hL1] at hpl
    have HL := Lib.hid (And.intro hL1 hL2)
    have HPL := Lib.hid hpl
    have hm1I : ¬ (L2.length : Int) > L1.length := by omega
    have hm1d : decide (L1.length < L2.length) = false := decide_eq_false (by omega)
    clear hL1 hL2 hpl
    by_cases h0L : 0 < L1.length
    case pos =>
      have h0I : (L1.length : Int) > 0 := by omega
      have h0J : (0 : Int) < L1.length := by omega
      clear hle
      go_wp2_with fail
      refine (Ledger_any (l) (.slice ot l.field.tallies.length ct) (.slice on N cn) W5 (HA.out.1.below HK5.out.below (Nat.le_refl _)) (HA.out.2.below HK5.out.below (Nat.le_refl _)) (by have := HM.out.2.2.1; omega) (by have := HM.out.2.2.2.1; omega)).mono ?_
      rintro e W6 ⟨a6, b6, rfl, ht6, hn6, hb⟩
      have HL6 := Lib.hid (And.intro ht6 hn6)
      clear ht6 hn6
      have HK6 := Lib.hid (HK5.out.next hb)
      clear hb
      (try clear c0 f0)
      (try clear c1 f1)
      obtain ⟨c0, f0, l0⟩ := cells_of_block HK6.out.blk.2.2
      obtain ⟨c1, f1, l1⟩ := cells_of_block HK6.out.blk.1
      go_wp2_with fail
      refine (Leave_any (l) a6 b6 W6 HL6.out.1 HL6.out.2).mono ?_
      rintro e W7 ⟨hb, ⟨hne, _⟩ | ⟨_, u7, rfl, hu7⟩⟩
      · exact absurd (HM.out.1) hne
      rw [HL.out.1] at hu7
      obtain ⟨uo7, uc7, rfl⟩ := hu7.open
      have HU7 := Lib.hid hu7
      clear hu7
      have HK7 := Lib.hid (HK6.out.next hb)
      clear hb
      (try clear c0 f0)
      (try clear c1 f1)
      obtain ⟨c0, f0, l0⟩ := cells_of_block HK7.out.blk.2.2
      obtain ⟨c1, f1, l1⟩ := cells_of_block HK7.out.blk.1
      have HK7 := Lib.hid (HK7.out.add (show IntsAt W7 (.slice uo7 (L1).length uc7) (L1) from HU7.out) (last_at HU7.out))
      go_wp2_with fail
      refine (Ledger_any (X) (.slice ot l.field.tallies.length ct) (.slice o3 N c3) W7 (HXI.out.2.2.2.2.below HK7.out.below (Nat.le_refl _)) (HK7.out.blk.2.1) (by rw [HXI.out.2.2.2.1]; have := HM.out.2.2.1; omega) (by rw [HXI.out.2.2.1]; omega)).mono ?_
      rintro e W8 ⟨a8, b8, rfl, ht8, hn8, hb⟩
      have HL8 := Lib.hid (And.intro ht8 hn8)
      clear ht8 hn8
      have HK8 := Lib.hid (HK7.out.next hb)
      clear hb
      (try clear c0 f0)
      (try clear c1 f1)
      obtain ⟨c0, f0, l0⟩ := cells_of_block HK8.out.blk.2.2
      obtain ⟨c1, f1, l1⟩ := cells_of_block HK8.out.blk.1
      go_wp2_with fail
      refine (Leave_any (X) a8 b8 W8 HL8.out.1 HL8.out.2).mono ?_
      rintro e W9 ⟨hb, ⟨hne, _⟩ | ⟨_, u9, rfl, hu9⟩⟩
      · exact absurd (HXI.out.1) hne
      rw [HL.out.2] at hu9
      obtain ⟨uo9, uc9, rfl⟩ := hu9.open
      have HU9 := Lib.hid hu9
      clear hu9
      have HK9 := Lib.hid (HK8.out.next hb)
      clear hb
      (try clear c0 f0)
      (try clear c1 f1)
      obtain ⟨c0, f0, l0⟩ := cells_of_block HK9.out.blk.2.2
      obtain ⟨c1, f1, l1⟩ := cells_of_block HK9.out.blk.1
      have HK9 := Lib.hid (HK9.out.add (show IntsAt W9 (.slice uo9 (L2).length uc9) (L2) from HU9.out) (last_at HU9.out))
      go_wp2_with fail
      refine (awake_any _).mono ?_
      rintro e W10 ⟨rfl, hb⟩
      have HB10 := Lib.hid (bgo HK9.out.below hb)
      clear hb
      go_wp2_with fail
      go_returns
      exact ⟨by simp, HB10.out⟩
    obtain rfl : L1 = [] := List.eq_nil_of_length_eq_zero (by omega)
    obtain rfl : L2 = [] := List.eq_nil_of_length_eq_zero (Nat.le_zero.1 hle)
    clear hm1I hm1d h0L hle
    obtain ⟨ha, hax, hi1, hi2⟩ := HPL.out rfl
    obtain ⟨n, hnw⟩ : ∃ n : Nat, l.field.weeders = n := ⟨l.field.weeders.toNat, by have := HM.out.2.2.2.2; omega⟩
    have hwn : l.field.weeders.toNat = n := by omega
    have hwx : X.field.weeders.toNat = n := by rw [HXI.out.2.2.2.1]; exact hwn
    have k1 : (bndL partP l (duesT l)).length = n := by rw [least_len (asked_ok ha).1 (asked_ok ha).2]; exact hwn
    have k2 : (bndL partP X (duesT X)).length = n := by rw [least_len (asked_ok hax).1 (asked_ok hax).2]; exact hwx
    have k3 : (bndL partO l (duesT l)).length = n := by rw [least_len (asked_ok ha).1 (asked_ok ha).2]; exact hwn
    have k4 : (bndL partO X (duesT X)).length = n := by rw [least_len (asked_ok hax).1 (asked_ok hax).2]; exact hwx
    obtain ⟨R1, hR1⟩ : ∃ R, bndL partP l (duesT l) = R := ⟨_, rfl⟩
    obtain ⟨R2, hR2⟩ : ∃ R, bndL partP X (duesT X) = R := ⟨_, rfl⟩
    obtain ⟨R3, hR3⟩ : ∃ R, bndL partO l (duesT l) = R := ⟨_, rfl⟩
    obtain ⟨R4, hR4⟩ : ∃ R, bndL partO X (duesT X) = R := ⟨_, rfl⟩
    rw [hR1] at k1 hi1
    rw [hR2] at k2 hi1
    rw [hR3] at k3 hi2
    rw [hR4] at k4 hi2
    have HR1 := Lib.hid (And.intro hR1 k1)
    have HR2 := Lib.hid (And.intro hR2 k2)
    have HR3 := Lib.hid (And.intro hR3 k3)
    have HR4 := Lib.hid (And.intro hR4 k4)
    have HAS := Lib.hid (And.intro ha (And.intro hax (And.intro hi1 hi2)))
    clear ha hax hi1 hi2 hnw hwn hwx k1 k2 k3 k4 hR1 hR2 hR3 hR4
    go_wp2_with fail
    refine (Ledger_any (l) (.slice ot l.field.tallies.length ct) (.slice on N cn) W5 (HA.out.1.below HK5.out.below (Nat.le_refl _)) (HA.out.2.below HK5.out.below (Nat.le_refl _)) (by have := HM.out.2.2.1; omega) (by have := HM.out.2.2.2.1; omega)).mono ?_
    rintro e W6 ⟨a6, b6, rfl, ht6, hn6, hb⟩
    have HL6 := Lib.hid (And.intro ht6 hn6)
    clear ht6 hn6
    have HK6 := Lib.hid (HK5.out.next hb)
    clear hb
    (try clear c0 f0)
    (try clear c1 f1)
    obtain ⟨c0, f0, l0⟩ := cells_of_block HK6.out.blk.2.2
    obtain ⟨c1, f1, l1⟩ := cells_of_block HK6.out.blk.1
    go_wp2_with fail
    refine (Leave_any (l) a6 b6 W6 HL6.out.1 HL6.out.2).mono ?_
    rintro e W7 ⟨hb, ⟨hne, _⟩ | ⟨_, u7, rfl, hu7⟩⟩
    · exact absurd (HM.out.1) hne
    rw [HL.out.1] at hu7
    obtain ⟨uo7, uc7, rfl⟩ := hu7.open
    have HU7 := Lib.hid hu7
    clear hu7
    have HK7 := Lib.hid (HK6.out.next hb)
    clear hb
    (try clear c0 f0)
    (try clear c1 f1)
    obtain ⟨c0, f0, l0⟩ := cells_of_block HK7.out.blk.2.2
    obtain ⟨c1, f1, l1⟩ := cells_of_block HK7.out.blk.1
    have HK7 := Lib.hid (HK7.out.add (show IntsAt W7 (.slice uo7 (([] : List Int)).length uc7) (([] : List Int)) from HU7.out) (last_at HU7.out))
    go_wp2_with fail
    refine (Ledger_any (X) (.slice ot l.field.tallies.length ct) (.slice o3 N c3) W7 (HXI.out.2.2.2.2.below HK7.out.below (Nat.le_refl _)) (HK7.out.blk.2.1) (by rw [HXI.out.2.2.2.1]; have := HM.out.2.2.1; omega) (by rw [HXI.out.2.2.1]; omega)).mono ?_
    rintro e W8 ⟨a8, b8, rfl, ht8, hn8, hb⟩
    have HL8 := Lib.hid (And.intro ht8 hn8)
    clear ht8 hn8
    have HK8 := Lib.hid (HK7.out.next hb)
    clear hb
    (try clear c0 f0)
    (try clear c1 f1)
    obtain ⟨c0, f0, l0⟩ := cells_of_block HK8.out.blk.2.2
    obtain ⟨c1, f1, l1⟩ := cells_of_block HK8.out.blk.1
    go_wp2_with fail
    refine (Leave_any (X) a8 b8 W8 HL8.out.1 HL8.out.2).mono ?_
    rintro e W9 ⟨hb, ⟨hne, _⟩ | ⟨_, u9, rfl, hu9⟩⟩
    · exact absurd (HXI.out.1) hne
    rw [HL.out.2] at hu9
    obtain ⟨uo9, uc9, rfl⟩ := hu9.open
    have HU9 := Lib.hid hu9
    clear hu9
    have HK9 := Lib.hid (HK8.out.next hb)
    clear hb
    (try clear c0 f0)
    (try clear c1 f1)
    obtain ⟨c0, f0, l0⟩ := cells_of_block HK9.out.blk.2.2
    obtain ⟨c1, f1, l1⟩ := cells_of_block HK9.out.blk.1
    have HK9 := Lib.hid (HK9.out.add (show IntsAt W9 (.slice uo9 (([] : List Int)).length uc9) (([] : List Int)) from HU9.out) (last_at HU9.out))
    go_wp2_with fail
    refine (Ledger_any (l) (.slice ot l.field.tallies.length ct) (.slice on N cn) W9 (HA.out.1.below HK9.out.below (Nat.le_refl _)) (HA.out.2.below HK9.out.below (Nat.le_refl _)) (by have := HM.out.2.2.1; omega) (by have := HM.out.2.2.2.1; omega)).mono ?_
    rintro e W10 ⟨a10, b10, rfl, ht10, hn10, hb⟩
    have HL10 := Lib.hid (And.intro ht10 hn10)
    clear ht10 hn10
    have HK10 := Lib.hid (HK9.out.next hb)
    clear hb
    (try clear c0 f0)
    (try clear c1 f1)
    obtain ⟨c0, f0, l0⟩ := cells_of_block HK10.out.blk.2.2
    obtain ⟨c1, f1, l1⟩ := cells_of_block HK10.out.blk.1
    go_wp2_with fail
    refine (Paid_any (l) a10 b10 W10 HL10.out.1 HL10.out.2).mono ?_
    rintro e W11 ⟨hb, ⟨hne, _⟩ | ⟨_, u11, rfl, hu11⟩⟩
    · exact absurd (HAS.out.1) hne
    rw [HR1.out.1] at hu11
    obtain ⟨uo11, uc11, rfl⟩ := hu11.open
    have hv11 : SlAt 2 W11 (.slice uo11 n uc11) n (pairCells R1) := by have := PairsAt.at_ hu11 (HR1.out.2); rw [HR1.out.2] at this; exact this
    rw [HR1.out.2]
    have HV11 := Lib.hid hv11
    clear hu11 hv11
    have HK11 := Lib.hid (HK10.out.next hb)
    clear hb
    (try clear c0 f0)
    (try clear c1 f1)
    obtain ⟨c0, f0, l0⟩ := cells_of_block HK11.out.blk.2.2
    obtain ⟨c1, f1, l1⟩ := cells_of_block HK11.out.blk.1
    have HK11 := Lib.hid (HK11.out.add HV11.out (last_at HV11.out))
    go_wp2_with fail
    refine (Ledger_any (X) (.slice ot l.field.tallies.length ct) (.slice o3 N c3) W11 (HXI.out.2.2.2.2.below HK11.out.below (Nat.le_refl _)) (HK11.out.blk.2.1) (by rw [HXI.out.2.2.2.1]; have := HM.out.2.2.1; omega) (by rw [HXI.out.2.2.1]; omega)).mono ?_
    rintro e W12 ⟨a12, b12, rfl, ht12, hn12, hb⟩
    have HL12 := Lib.hid (And.intro ht12 hn12)
    clear ht12 hn12
    have HK12 := Lib.hid (HK11.out.next hb)
    clear hb
    (try clear c0 f0)
    (try clear c1 f1)
    obtain ⟨c0, f0, l0⟩ := cells_of_block HK12.out.blk.2.2
    obtain ⟨c1, f1, l1⟩ := cells_of_block HK12.out.blk.1
    go_wp2_with fail
    refine (Paid_any (X) a12 b12 W12 HL12.out.1 HL12.out.2).mono ?_
    rintro e W13 ⟨hb, ⟨hne, _⟩ | ⟨_, u13, rfl, hu13⟩⟩
    · exact absurd (HAS.out.2.1) hne
    rw [HR2.out.1] at hu13
    obtain ⟨uo13, uc13, rfl⟩ := hu13.open
    have hv13 : SlAt 2 W13 (.slice uo13 n uc13) n (pairCells R2) := by have := PairsAt.at_ hu13 (HR2.out.2); rw [HR2.out.2] at this; exact this
    rw [HR2.out.2]
    have HV13 := Lib.hid hv13
    clear hu13 hv13
    have HK13 := Lib.hid (HK12.out.next hb)
    clear hb
    (try clear c0 f0)
    (try clear c1 f1)
    obtain ⟨c0, f0, l0⟩ := cells_of_block HK13.out.blk.2.2
    obtain ⟨c1, f1, l1⟩ := cells_of_block HK13.out.blk.1
    have HK13 := Lib.hid (HK13.out.add HV13.out (last_at HV13.out))
    go_wp2_with fail
    refine (Ledger_any (l) (.slice ot l.field.tallies.length ct) (.slice on N cn) W13 (HA.out.1.below HK13.out.below (Nat.le_refl _)) (HA.out.2.below HK13.out.below (Nat.le_refl _)) (by have := HM.out.2.2.1; omega) (by have := HM.out.2.2.2.1; omega)).mono ?_
    rintro e W14 ⟨a14, b14, rfl, ht14, hn14, hb⟩
    have HL14 := Lib.hid (And.intro ht14 hn14)
    clear ht14 hn14
    have HK14 := Lib.hid (HK13.out.next hb)
    clear hb
    (try clear c0 f0)
    (try clear c1 f1)
    obtain ⟨c0, f0, l0⟩ := cells_of_block HK14.out.blk.2.2
    obtain ⟨c1, f1, l1⟩ := cells_of_block HK14.out.blk.1
    go_wp2_with fail
    refine (Owed_any (l) a14 b14 W14 HL14.out.1 HL14.out.2).mono ?_
    rintro e W15 ⟨hb, ⟨hne, _⟩ | ⟨_, u15, rfl, hu15⟩⟩
    · exact absurd (HAS.out.1) hne
    rw [HR3.out.1] at hu15
    obtain ⟨uo15, uc15, rfl⟩ := hu15.open
    have hv15 : SlAt 2 W15 (.slice uo15 n uc15) n (pairCells R3) := by have := PairsAt.at_ hu15 (HR3.out.2); rw [HR3.out.2] at this; exact this
    rw [HR3.out.2]
    have HV15 := Lib.hid hv15
    clear hu15 hv15
    have HK15 := Lib.hid (HK14.out.next hb)
    clear hb
    (try clear c0 f0)
    (try clear c1 f1)
    obtain ⟨c0, f0, l0⟩ := cells_of_block HK15.out.blk.2.2
    obtain ⟨c1, f1, l1⟩ := cells_of_block HK15.out.blk.1
    have HK15 := Lib.hid (HK15.out.add HV15.out (last_at HV15.out))
    go_wp2_with fail
    refine (Ledger_any (X) (.slice ot l.field.tallies.length ct) (.slice o3 N c3) W15 (HXI.out.2.2.2.2.below HK15.out.below (Nat.le_refl _)) (HK15.out.blk.2.1) (by rw [HXI.out.2.2.2.1]; have := HM.out.2.2.1; omega) (by rw [HXI.out.2.2.1]; omega)).mono ?_
    rintro e W16 ⟨a16, b16, rfl, ht16, hn16, hb⟩
    have HL16 := Lib.hid (And.intro ht16 hn16)
    clear ht16 hn16
    have HK16 := Lib.hid (HK15.out.next hb)
    clear hb
    (try clear c0 f0)
    (try clear c1 f1)
    obtain ⟨c0, f0, l0⟩ := cells_of_block HK16.out.blk.2.2
    obtain ⟨c1, f1, l1⟩ := cells_of_block HK16.out.blk.1
    go_wp2_with fail
    refine (Owed_any (X) a16 b16 W16 HL16.out.1 HL16.out.2).mono ?_
    rintro e W17 ⟨hb, ⟨hne, _⟩ | ⟨_, u17, rfl, hu17⟩⟩
    · exact absurd (HAS.out.2.1) hne
    rw [HR4.out.1] at hu17
    obtain ⟨uo17, uc17, rfl⟩ := hu17.open
    have hv17 : SlAt 2 W17 (.slice uo17 n uc17) n (pairCells R4) := by have := PairsAt.at_ hu17 (HR4.out.2); rw [HR4.out.2] at this; exact this
    rw [HR4.out.2]
    have HV17 := Lib.hid hv17
    clear hu17 hv17
    have HK17 := Lib.hid (HK16.out.next hb)
    clear hb
    (try clear c0 f0)
    (try clear c1 f1)
    obtain ⟨c0, f0, l0⟩ := cells_of_block HK17.out.blk.2.2
    obtain ⟨c1, f1, l1⟩ := cells_of_block HK17.out.blk.1
    have HK17 := Lib.hid (HK17.out.add HV17.out (last_at HV17.out))
    go_wp2_with fail
    refine (inside_any R1 R2 (.slice uo11 n uc11) (.slice uo13 n uc13) W17 (PairsAt.of_at HK17.out.is.2.2.2.1 HR1.out.2) (PairsAt.of_at HK17.out.is.2.2.1 HR2.out.2) HAS.out.2.2.1).mono ?_
    rintro e W18 ⟨rfl, hb⟩
    have HK18 := Lib.hid (HK17.out.next hb)
    clear hb
    (try clear c0 f0)
    (try clear c1 f1)
    obtain ⟨c0, f0, l0⟩ := cells_of_block HK18.out.blk.2.2
    obtain ⟨c1, f1, l1⟩ := cells_of_block HK18.out.blk.1
    go_wp2_with fail
    refine (inside_any R3 R4 (.slice uo15 n uc15) (.slice uo17 n uc17) W18 (PairsAt.of_at HK18.out.is.2.1 HR3.out.2) (PairsAt.of_at HK18.out.is.1 HR4.out.2) HAS.out.2.2.2).mono ?_
    rintro e W19 ⟨rfl, hb⟩
    have HK19 := Lib.hid (HK18.out.next hb)
    clear hb
    (try clear c0 f0)
    (try clear c1 f1)
    obtain ⟨c0, f0, l0⟩ := cells_of_block HK19.out.blk.2.2
    obtain ⟨c1, f1, l1⟩ := cells_of_block HK19.out.blk.1
    go_wp2_with fail
    refine (awake_any _).mono ?_
    rintro e W20 ⟨rfl, hb⟩
    have HB20 := Lib.hid (bgo HK19.out.below hb)
    clear hb
    go_wp2_with fail
    go_returns
    exact ⟨by simp, HB20.out⟩
  | succ J =>
    have hJ : J < l.notes.length := by rw [HNN.out]; omega
    have hJI : (J : Int) < N := by omega
    have hsub : ((J + 1 : Nat) : Int) - 1 = (J : Int) := by omega
    have hg0 : ((J + 1 : Nat) : Int) > 0 := by omega
    have hg1 : (0 : Int) < ((J + 1 : Nat) : Int) := by omega
    have hnb := note_box HSO.out.1 hJ
    obtain ⟨g, hog⟩ : ∃ g, o3 = some ⟨g, 0, none⟩ := by
      obtain ⟨_, ⟨_, h2⟩ | ⟨g, cg', cur, hv, _⟩⟩ := H4.out.2.2.2
      · omega
      · cases hv; exact ⟨g, rfl⟩
    subst hog
    obtain ⟨_, ⟨h2, _⟩ | ⟨g', cap, cur, h2, hbg, hgb, hnc, hcm, hcs, htk⟩⟩ := id H4.out.2.2.2
    · cases h2
    cases h2
    have hgW : W2.heap.size ≤ g := hbg
    have hgb1 : ¬ g = b1 := by omega
    have hgb2 : ¬ b1 = g := by omega
    have hgw : ¬ w.heap.size = g := by omega
    obtain ⟨b9, f9, hv9, hg9, d0, d1, d2⟩ := TriplesAt.cell (SlAt.of_owns H4.out.2.2.2) hJ
    cases hv9
    rw [Nat.zero_add] at d0 d1 d2
    have hgJ : l.notes.getD J (0, 0, 0) = l.notes[J] := by simp [List.getD, hJ]
    rw [hgJ] at hnb
    have fg := (cells_of_block hgb).2.1
    have lg := (cells_of_block hgb).2.2
    generalize hy : l.notes[J] = y at *
    obtain ⟨y0, y1, y2⟩ := y
    simp only at d0 d1 d2 hnb
    have d2' : W4.cell? ⟨g, J * 3 + 1 + 1, none⟩ = some (iv y2) := d2
    have HGB := Lib.hid (And.intro hgb (And.intro hnc (And.intro hcm (And.intro hcs htk))))
    clear d2 hgb htk hcs hnc hcm
    go_wp2_with fail
    go_region
    refine gany9 fun W5 hW5 => ?_
    have hg5 : W5.heap[g]? = some (.cells ((cur.setIfInBounds (J * 3 + 1) (iv (max 0 (y1 - lo)))).setIfInBounds (J * 3 + 1 + 1) (iv (min 2000 (y2 + hi)))) 77 (0, 0)) := by
      rw [hW5, hdr]
      exact set_block (set_block HGB.out.1 _) _
    have hwn9 : (wideN l J lo hi).notes = l.notes.set J (y0, max 0 (y1 - lo), min 2000 (y2 + hi)) := by
      unfold wideN wideR
      simp only
      rw [hgJ]
    have hT5 : TriplesAt W5 (.slice (some ⟨g, 0, none⟩) N c3) (wideN l J lo hi).notes := by
      have hown : W5.ownsRow W2.heap.size 77 3 (.slice (some ⟨g, 0, none⟩) N c3) N (tripleCells (l.notes.set J (y0, max 0 (y1 - lo), min 2000 (y2 + hi)))) := by
        refine ⟨?_, .inr ⟨g, c3, _, rfl, hgW, hg5, HGB.out.2.1, HGB.out.2.2.1, by simpa using HGB.out.2.2.2.1, ?_⟩⟩
        · have := H4.out.2.2.2.1
          rw [← triple_set l.notes J y0 y1 y2 (max 0 (y1 - lo)) (min 2000 (y2 + hi)) (by rw [List.getElem?_eq_getElem hJ, hy]), List.length_set, List.length_set]
          exact this
        · rw [← triple_set l.notes J y0 y1 y2 (max 0 (y1 - lo)) (min 2000 (y2 + hi)) (by rw [List.getElem?_eq_getElem hJ, hy]), Array.toList_setIfInBounds, Array.toList_setIfInBounds, List.take_set, List.take_set, HGB.out.2.2.2.2]
      have := SlAt.of_owns hown
      rw [hwn9]
      unfold TriplesAt
      rw [List.length_set, HNN.out]
      exact this
    have hx5 : W5.heap[b1]? = some (.cells (lcells (wideN l J lo hi) (.slice ot l.field.tallies.length ct) (.slice (some ⟨g, 0, none⟩) N c3)) 30 (0, 0)) := by
      rw [hW5, hdr]
      exact (Below.heap_setCell _ _ _ _ (show b1 ≠ g by omega)).trans ((Below.heap_setCell _ _ _ _ (show b1 ≠ g by omega)).trans H4.out.1)
    have hl5 : W5.heap[w.heap.size]? = some (.cells (lcells l (.slice ot l.field.tallies.length ct) (.slice on N cn)) 30 (0, 0)) := by
      rw [hW5, hdr]
      exact (Below.heap_setCell _ _ _ _ (show w.heap.size ≠ g by omega)).trans ((Below.heap_setCell _ _ _ _ (show w.heap.size ≠ g by omega)).trans H4.out.2.1)
    have hwg : w.heap.size ≤ g := by have := HK2.out.below.size; omega
    have hB5 : Below w.heap.size w W5 := by
      rw [hW5]
      exact bgoDrew (bgoSet (bgoSet H4.out.2.2.1 hwg _) hwg _)
    have HK5 := Lib.hid (((Keeps.one hB5 hl5).more hT5 (last_at hT5)).more hx5 (last_block hx5))
    have hxi : faultW (wideN l J lo hi) = 0 ∧ (∀ o, WidG l (wideN l J lo hi) o o) ∧ (wideN l J lo hi).notes.length = N ∧ (wideN l J lo hi).field = l.field ∧ TalliesAt w (.slice ot l.field.tallies.length ct) (wideN l J lo hi).field.tallies := ⟨wideN_fault HSO.out.2 hJ hlo4.1 hhi4.1, wideN_wid HSO.out.1 hJ hlo4.1 hhi4.1, by rw [hwn9, List.length_set, HNN.out], rfl, HA.out.1⟩
    clear hW5 hT5 hx5 hl5 hB5 c1 f1 l14 hlot hbt hhit hK hnz hnz' hdr hg5 hwn9 hy hgJ hnb d0 d1 d2' fg lg hJI hsub hg0 hg1
    generalize wideN l J lo hi = X at *
    obtain ⟨o3, ho3⟩ : ∃ o3, (some ⟨g, 0, none⟩ : Option Addr) = o3 := ⟨_, rfl⟩
    rw [ho3] at HK5 ⊢
    have HXI := Lib.hid hxi
    clear hxi ho3
    obtain ⟨c0, f0, l0⟩ := cells_of_block HK5.out.blk.2.2
    obtain ⟨c1, f1, l1⟩ := cells_of_block HK5.out.blk.1
    have hle := wider_leave HM.out.1 HXI.out.1 (by rw [HXI.out.2.2.1, HNN.out]) HXI.out.2.1
    have hpl := wider_plain HM.out.1 HXI.out.1 (by rw [HXI.out.2.2.1, HNN.out]) HXI.out.2.1
    obtain ⟨L1, hL1⟩ : ∃ L, leaveW l = L := ⟨_, rfl⟩
    obtain ⟨L2, hL2⟩ : ∃ L, leaveW X = L := ⟨_, rfl⟩
    rw [hL1, hL2] at hle
    rw [hL1] at hpl
    have HL := Lib.hid (And.intro hL1 hL2)
    have HPL := Lib.hid hpl
    have hm1I : ¬ (L2.length : Int) > L1.length := by omega
    have hm1d : decide (L1.length < L2.length) = false := decide_eq_false (by omega)
    clear hL1 hL2 hpl
    by_cases h0L : 0 < L1.length
    case pos =>
      have h0I : (L1.length : Int) > 0 := by omega
      have h0J : (0 : Int) < L1.length := by omega
      clear hle
      go_wp2_with fail
      refine (Ledger_any (l) (.slice ot l.field.tallies.length ct) (.slice on N cn) W5 (HA.out.1.below HK5.out.below (Nat.le_refl _)) (HA.out.2.below HK5.out.below (Nat.le_refl _)) (by have := HM.out.2.2.1; omega) (by have := HM.out.2.2.2.1; omega)).mono ?_
      rintro e W6 ⟨a6, b6, rfl, ht6, hn6, hb⟩
      have HL6 := Lib.hid (And.intro ht6 hn6)
      clear ht6 hn6
      have HK6 := Lib.hid (HK5.out.next hb)
      clear hb
      (try clear c0 f0)
      (try clear c1 f1)
      obtain ⟨c0, f0, l0⟩ := cells_of_block HK6.out.blk.2.2
      obtain ⟨c1, f1, l1⟩ := cells_of_block HK6.out.blk.1
      go_wp2_with fail
      refine (Leave_any (l) a6 b6 W6 HL6.out.1 HL6.out.2).mono ?_
      rintro e W7 ⟨hb, ⟨hne, _⟩ | ⟨_, u7, rfl, hu7⟩⟩
      · exact absurd (HM.out.1) hne
      rw [HL.out.1] at hu7
      obtain ⟨uo7, uc7, rfl⟩ := hu7.open
      have HU7 := Lib.hid hu7
      clear hu7
      have HK7 := Lib.hid (HK6.out.next hb)
      clear hb
      (try clear c0 f0)
      (try clear c1 f1)
      obtain ⟨c0, f0, l0⟩ := cells_of_block HK7.out.blk.2.2
      obtain ⟨c1, f1, l1⟩ := cells_of_block HK7.out.blk.1
      have HK7 := Lib.hid (HK7.out.add (show IntsAt W7 (.slice uo7 (L1).length uc7) (L1) from HU7.out) (last_at HU7.out))
      go_wp2_with fail
      refine (Ledger_any (X) (.slice ot l.field.tallies.length ct) (.slice o3 N c3) W7 (HXI.out.2.2.2.2.below HK7.out.below (Nat.le_refl _)) (HK7.out.blk.2.1) (by rw [HXI.out.2.2.2.1]; have := HM.out.2.2.1; omega) (by rw [HXI.out.2.2.1]; omega)).mono ?_
      rintro e W8 ⟨a8, b8, rfl, ht8, hn8, hb⟩
      have HL8 := Lib.hid (And.intro ht8 hn8)
      clear ht8 hn8
      have HK8 := Lib.hid (HK7.out.next hb)
      clear hb
      (try clear c0 f0)
      (try clear c1 f1)
      obtain ⟨c0, f0, l0⟩ := cells_of_block HK8.out.blk.2.2
      obtain ⟨c1, f1, l1⟩ := cells_of_block HK8.out.blk.1
      go_wp2_with fail
      refine (Leave_any (X) a8 b8 W8 HL8.out.1 HL8.out.2).mono ?_
      rintro e W9 ⟨hb, ⟨hne, _⟩ | ⟨_, u9, rfl, hu9⟩⟩
      · exact absurd (HXI.out.1) hne
      rw [HL.out.2] at hu9
      obtain ⟨uo9, uc9, rfl⟩ := hu9.open
      have HU9 := Lib.hid hu9
      clear hu9
      have HK9 := Lib.hid (HK8.out.next hb)
      clear hb
      (try clear c0 f0)
      (try clear c1 f1)
      obtain ⟨c0, f0, l0⟩ := cells_of_block HK9.out.blk.2.2
      obtain ⟨c1, f1, l1⟩ := cells_of_block HK9.out.blk.1
      have HK9 := Lib.hid (HK9.out.add (show IntsAt W9 (.slice uo9 (L2).length uc9) (L2) from HU9.out) (last_at HU9.out))
      go_wp2_with fail
      refine (awake_any _).mono ?_
      rintro e W10 ⟨rfl, hb⟩
      have HB10 := Lib.hid (bgo HK9.out.below hb)
      clear hb
      go_wp2_with fail
      go_returns
      exact ⟨by simp, HB10.out⟩
    obtain rfl : L1 = [] := List.eq_nil_of_length_eq_zero (by omega)
    obtain rfl : L2 = [] := List.eq_nil_of_length_eq_zero (Nat.le_zero.1 hle)
    clear hm1I hm1d h0L hle
    obtain ⟨ha, hax, hi1, hi2⟩ := HPL.out rfl
    obtain ⟨n, hnw⟩ : ∃ n : Nat, l.field.weeders = n := ⟨l.field.weeders.toNat, by have := HM.out.2.2.2.2; omega⟩
    have hwn : l.field.weeders.toNat = n := by omega
    have hwx : X.field.weeders.toNat = n := by rw [HXI.out.2.2.2.1]; exact hwn
    have k1 : (bndL partP l (duesT l)).length = n := by rw [least_len (asked_ok ha).1 (asked_ok ha).2]; exact hwn
    have k2 : (bndL partP X (duesT X)).length = n := by rw [least_len (asked_ok hax).1 (asked_ok hax).2]; exact hwx
    have k3 : (bndL partO l (duesT l)).length = n := by rw [least_len (asked_ok ha).1 (asked_ok ha).2]; exact hwn
    have k4 : (bndL partO X (duesT X)).length = n := by rw [least_len (asked_ok hax).1 (asked_ok hax).2]; exact hwx
    obtain ⟨R1, hR1⟩ : ∃ R, bndL partP l (duesT l) = R := ⟨_, rfl⟩
    obtain ⟨R2, hR2⟩ : ∃ R, bndL partP X (duesT X) = R := ⟨_, rfl⟩
    obtain ⟨R3, hR3⟩ : ∃ R, bndL partO l (duesT l) = R := ⟨_, rfl⟩
    obtain ⟨R4, hR4⟩ : ∃ R, bndL partO X (duesT X) = R := ⟨_, rfl⟩
    rw [hR1] at k1 hi1
    rw [hR2] at k2 hi1
    rw [hR3] at k3 hi2
    rw [hR4] at k4 hi2
    have HR1 := Lib.hid (And.intro hR1 k1)
    have HR2 := Lib.hid (And.intro hR2 k2)
    have HR3 := Lib.hid (And.intro hR3 k3)
    have HR4 := Lib.hid (And.intro hR4 k4)
    have HAS := Lib.hid (And.intro ha (And.intro hax (And.intro hi1 hi2)))
    clear ha hax hi1 hi2 hnw hwn hwx k1 k2 k3 k4 hR1 hR2 hR3 hR4
    go_wp2_with fail
    refine (Ledger_any (l) (.slice ot l.field.tallies.length ct) (.slice on N cn) W5 (HA.out.1.below HK5.out.below (Nat.le_refl _)) (HA.out.2.below HK5.out.below (Nat.le_refl _)) (by have := HM.out.2.2.1; omega) (by have := HM.out.2.2.2.1; omega)).mono ?_
    rintro e W6 ⟨a6, b6, rfl, ht6, hn6, hb⟩
    have HL6 := Lib.hid (And.intro ht6 hn6)
    clear ht6 hn6
    have HK6 := Lib.hid (HK5.out.next hb)
    clear hb
    (try clear c0 f0)
    (try clear c1 f1)
    obtain ⟨c0, f0, l0⟩ := cells_of_block HK6.out.blk.2.2
    obtain ⟨c1, f1, l1⟩ := cells_of_block HK6.out.blk.1
    go_wp2_with fail
    refine (Leave_any (l) a6 b6 W6 HL6.out.1 HL6.out.2).mono ?_
    rintro e W7 ⟨hb, ⟨hne, _⟩ | ⟨_, u7, rfl, hu7⟩⟩
    · exact absurd (HM.out.1) hne
    rw [HL.out.1] at hu7
    obtain ⟨uo7, uc7, rfl⟩ := hu7.open
    have HU7 := Lib.hid hu7
    clear hu7
    have HK7 := Lib.hid (HK6.out.next hb)
    clear hb
    (try clear c0 f0)
    (try clear c1 f1)
    obtain ⟨c0, f0, l0⟩ := cells_of_block HK7.out.blk.2.2
    obtain ⟨c1, f1, l1⟩ := cells_of_block HK7.out.blk.1
    have HK7 := Lib.hid (HK7.out.add (show IntsAt W7 (.slice uo7 (([] : List Int)).length uc7) (([] : List Int)) from HU7.out) (last_at HU7.out))
    go_wp2_with fail
    refine (Ledger_any (X) (.slice ot l.field.tallies.length ct) (.slice o3 N c3) W7 (HXI.out.2.2.2.2.below HK7.out.below (Nat.le_refl _)) (HK7.out.blk.2.1) (by rw [HXI.out.2.2.2.1]; have := HM.out.2.2.1; omega) (by rw [HXI.out.2.2.1]; omega)).mono ?_
    rintro e W8 ⟨a8, b8, rfl, ht8, hn8, hb⟩
    have HL8 := Lib.hid (And.intro ht8 hn8)
    clear ht8 hn8
    have HK8 := Lib.hid (HK7.out.next hb)
    clear hb
    (try clear c0 f0)
    (try clear c1 f1)
    obtain ⟨c0, f0, l0⟩ := cells_of_block HK8.out.blk.2.2
    obtain ⟨c1, f1, l1⟩ := cells_of_block HK8.out.blk.1
    go_wp2_with fail
    refine (Leave_any (X) a8 b8 W8 HL8.out.1 HL8.out.2).mono ?_
    rintro e W9 ⟨hb, ⟨hne, _⟩ | ⟨_, u9, rfl, hu9⟩⟩
    · exact absurd (HXI.out.1) hne
    rw [HL.out.2] at hu9
    obtain ⟨uo9, uc9, rfl⟩ := hu9.open
    have HU9 := Lib.hid hu9
    clear hu9
    have HK9 := Lib.hid (HK8.out.next hb)
    clear hb
    (try clear c0 f0)
    (try clear c1 f1)
    obtain ⟨c0, f0, l0⟩ := cells_of_block HK9.out.blk.2.2
    obtain ⟨c1, f1, l1⟩ := cells_of_block HK9.out.blk.1
    have HK9 := Lib.hid (HK9.out.add (show IntsAt W9 (.slice uo9 (([] : List Int)).length uc9) (([] : List Int)) from HU9.out) (last_at HU9.out))
    go_wp2_with fail
    refine (Ledger_any (l) (.slice ot l.field.tallies.length ct) (.slice on N cn) W9 (HA.out.1.below HK9.out.below (Nat.le_refl _)) (HA.out.2.below HK9.out.below (Nat.le_refl _)) (by have := HM.out.2.2.1; omega) (by have := HM.out.2.2.2.1; omega)).mono ?_
    rintro e W10 ⟨a10, b10, rfl, ht10, hn10, hb⟩
    have HL10 := Lib.hid (And.intro ht10 hn10)
    clear ht10 hn10
    have HK10 := Lib.hid (HK9.out.next hb)
    clear hb
    (try clear c0 f0)
    (try clear c1 f1)
    obtain ⟨c0, f0, l0⟩ := cells_of_block HK10.out.blk.2.2
    obtain ⟨c1, f1, l1⟩ := cells_of_block HK10.out.blk.1
    go_wp2_with fail
    refine (Paid_any (l) a10 b10 W10 HL10.out.1 HL10.out.2).mono ?_
    rintro e W11 ⟨hb, ⟨hne, _⟩ | ⟨_, u11, rfl, hu11⟩⟩
    · exact absurd (HAS.out.1) hne
    rw [HR1.out.1] at hu11
    obtain ⟨uo11, uc11, rfl⟩ := hu11.open
    have hv11 : SlAt 2 W11 (.slice uo11 n uc11) n (pairCells R1) := by have := PairsAt.at_ hu11 (HR1.out.2); rw [HR1.out.2] at this; exact this
    rw [HR1.out.2]
    have HV11 := Lib.hid hv11
    clear hu11 hv11
    have HK11 := Lib.hid (HK10.out.next hb)
    clear hb
    (try clear c0 f0)
    (try clear c1 f1)
    obtain ⟨c0, f0, l0⟩ := cells_of_block HK11.out.blk.2.2
    obtain ⟨c1, f1, l1⟩ := cells_of_block HK11.out.blk.1
    have HK11 := Lib.hid (HK11.out.add HV11.out (last_at HV11.out))
    go_wp2_with fail
    refine (Ledger_any (X) (.slice ot l.field.tallies.length ct) (.slice o3 N c3) W11 (HXI.out.2.2.2.2.below HK11.out.below (Nat.le_refl _)) (HK11.out.blk.2.1) (by rw [HXI.out.2.2.2.1]; have := HM.out.2.2.1; omega) (by rw [HXI.out.2.2.1]; omega)).mono ?_
    rintro e W12 ⟨a12, b12, rfl, ht12, hn12, hb⟩
    have HL12 := Lib.hid (And.intro ht12 hn12)
    clear ht12 hn12
    have HK12 := Lib.hid (HK11.out.next hb)
    clear hb
    (try clear c0 f0)
    (try clear c1 f1)
    obtain ⟨c0, f0, l0⟩ := cells_of_block HK12.out.blk.2.2
    obtain ⟨c1, f1, l1⟩ := cells_of_block HK12.out.blk.1
    go_wp2_with fail
    refine (Paid_any (X) a12 b12 W12 HL12.out.1 HL12.out.2).mono ?_
    rintro e W13 ⟨hb, ⟨hne, _⟩ | ⟨_, u13, rfl, hu13⟩⟩
    · exact absurd (HAS.out.2.1) hne
    rw [HR2.out.1] at hu13
    obtain ⟨uo13, uc13, rfl⟩ := hu13.open
    have hv13 : SlAt 2 W13 (.slice uo13 n uc13) n (pairCells R2) := by have := PairsAt.at_ hu13 (HR2.out.2); rw [HR2.out.2] at this; exact this
    rw [HR2.out.2]
    have HV13 := Lib.hid hv13
    clear hu13 hv13
    have HK13 := Lib.hid (HK12.out.next hb)
    clear hb
    (try clear c0 f0)
    (try clear c1 f1)
    obtain ⟨c0, f0, l0⟩ := cells_of_block HK13.out.blk.2.2
    obtain ⟨c1, f1, l1⟩ := cells_of_block HK13.out.blk.1
    have HK13 := Lib.hid (HK13.out.add HV13.out (last_at HV13.out))
    go_wp2_with fail
    refine (Ledger_any (l) (.slice ot l.field.tallies.length ct) (.slice on N cn) W13 (HA.out.1.below HK13.out.below (Nat.le_refl _)) (HA.out.2.below HK13.out.below (Nat.le_refl _)) (by have := HM.out.2.2.1; omega) (by have := HM.out.2.2.2.1; omega)).mono ?_
    rintro e W14 ⟨a14, b14, rfl, ht14, hn14, hb⟩
    have HL14 := Lib.hid (And.intro ht14 hn14)
    clear ht14 hn14
    have HK14 := Lib.hid (HK13.out.next hb)
    clear hb
    (try clear c0 f0)
    (try clear c1 f1)
    obtain ⟨c0, f0, l0⟩ := cells_of_block HK14.out.blk.2.2
    obtain ⟨c1, f1, l1⟩ := cells_of_block HK14.out.blk.1
    go_wp2_with fail
    refine (Owed_any (l) a14 b14 W14 HL14.out.1 HL14.out.2).mono ?_
    rintro e W15 ⟨hb, ⟨hne, _⟩ | ⟨_, u15, rfl, hu15⟩⟩
    · exact absurd (HAS.out.1) hne
    rw [HR3.out.1] at hu15
    obtain ⟨uo15, uc15, rfl⟩ := hu15.open
    have hv15 : SlAt 2 W15 (.slice uo15 n uc15) n (pairCells R3) := by have := PairsAt.at_ hu15 (HR3.out.2); rw [HR3.out.2] at this; exact this
    rw [HR3.out.2]
    have HV15 := Lib.hid hv15
    clear hu15 hv15
    have HK15 := Lib.hid (HK14.out.next hb)
    clear hb
    (try clear c0 f0)
    (try clear c1 f1)
    obtain ⟨c0, f0, l0⟩ := cells_of_block HK15.out.blk.2.2
    obtain ⟨c1, f1, l1⟩ := cells_of_block HK15.out.blk.1
    have HK15 := Lib.hid (HK15.out.add HV15.out (last_at HV15.out))
    go_wp2_with fail
    refine (Ledger_any (X) (.slice ot l.field.tallies.length ct) (.slice o3 N c3) W15 (HXI.out.2.2.2.2.below HK15.out.below (Nat.le_refl _)) (HK15.out.blk.2.1) (by rw [HXI.out.2.2.2.1]; have := HM.out.2.2.1; omega) (by rw [HXI.out.2.2.1]; omega)).mono ?_
    rintro e W16 ⟨a16, b16, rfl, ht16, hn16, hb⟩
    have HL16 := Lib.hid (And.intro ht16 hn16)
    clear ht16 hn16
    have HK16 := Lib.hid (HK15.out.next hb)
    clear hb
    (try clear c0 f0)
    (try clear c1 f1)
    obtain ⟨c0, f0, l0⟩ := cells_of_block HK16.out.blk.2.2
    obtain ⟨c1, f1, l1⟩ := cells_of_block HK16.out.blk.1
    go_wp2_with fail
    refine (Owed_any (X) a16 b16 W16 HL16.out.1 HL16.out.2).mono ?_
    rintro e W17 ⟨hb, ⟨hne, _⟩ | ⟨_, u17, rfl, hu17⟩⟩
    · exact absurd (HAS.out.2.1) hne
    rw [HR4.out.1] at hu17
    obtain ⟨uo17, uc17, rfl⟩ := hu17.open
    have hv17 : SlAt 2 W17 (.slice uo17 n uc17) n (pairCells R4) := by have := PairsAt.at_ hu17 (HR4.out.2); rw [HR4.out.2] at this; exact this
    rw [HR4.out.2]
    have HV17 := Lib.hid hv17
    clear hu17 hv17
    have HK17 := Lib.hid (HK16.out.next hb)
    clear hb
    (try clear c0 f0)
    (try clear c1 f1)
    obtain ⟨c0, f0, l0⟩ := cells_of_block HK17.out.blk.2.2
    obtain ⟨c1, f1, l1⟩ := cells_of_block HK17.out.blk.1
    have HK17 := Lib.hid (HK17.out.add HV17.out (last_at HV17.out))
    go_wp2_with fail
    refine (inside_any R1 R2 (.slice uo11 n uc11) (.slice uo13 n uc13) W17 (PairsAt.of_at HK17.out.is.2.2.2.1 HR1.out.2) (PairsAt.of_at HK17.out.is.2.2.1 HR2.out.2) HAS.out.2.2.1).mono ?_
    rintro e W18 ⟨rfl, hb⟩
    have HK18 := Lib.hid (HK17.out.next hb)
    clear hb
    (try clear c0 f0)
    (try clear c1 f1)
    obtain ⟨c0, f0, l0⟩ := cells_of_block HK18.out.blk.2.2
    obtain ⟨c1, f1, l1⟩ := cells_of_block HK18.out.blk.1
    go_wp2_with fail
    refine (inside_any R3 R4 (.slice uo15 n uc15) (.slice uo17 n uc17) W18 (PairsAt.of_at HK18.out.is.2.1 HR3.out.2) (PairsAt.of_at HK18.out.is.1 HR4.out.2) HAS.out.2.2.2).mono ?_
    rintro e W19 ⟨rfl, hb⟩
    have HK19 := Lib.hid (HK18.out.next hb)
    clear hb
    (try clear c0 f0)
    (try clear c1 f1)
    obtain ⟨c0, f0, l0⟩ := cells_of_block HK19.out.blk.2.2
    obtain ⟨c1, f1, l1⟩ := cells_of_block HK19.out.blk.1
    go_wp2_with fail
    refine (awake_any _).mono ?_
    rintro e W20 ⟨rfl, hb⟩
    have HB20 := Lib.hid (bgo HK19.out.below hb)
    clear hb
    go_wp2_with fail
    go_returns
    exact ⟨by simp, HB20.out⟩
end Go.Proofs.YtdjgikcnmokjkaaGreat

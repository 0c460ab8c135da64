/-
  The walk of WagePot.
-/
import Derived.WalkKit
import Derived.WalkLawsBesides
import Derived.WalkSpells
import Derived.Outline
import Derived.Handy
import Derived.KernelRfl
import Derived.Lib.Hide
import Derived.BigRegion
import Derived.Deep.Cut
import Derived.Test.YtdjgikcnmokjkaaGreatZU
import Derived.Test.YtdjgikcnmokjkaaGreatZO
import Derived.Test.YtdjgikcnmokjkaaGreatKF
namespace Go.Proofs.YtdjgikcnmokjkaaGreat
open Go.RowKit Go.RG Go.SL Go.Shelf Cou Go.TB
set_option maxHeartbeats 400000
set_option maxRecDepth 10000

theorem rshareP_len (of : Int) (ns : List Int) : (rshareL of ns).length = ns.length := by
  unfold rshareL
  rw [(payTo_len _ _ _).1, quosL_len]

set_option maxHeartbeats 8000000 in
theorem WagePot_any (l : LedgerD) (tv nv wdv : Value) (words : List (Fin 65536)) (pt : Int) (w : World) (ht : TalliesAt w tv l.field.tallies) (hn : TriplesAt w nv l.notes) (hwd : WordsAt w wdv words) (h0 : 0 ≤ pt ∧ pt ≤ 65535) :
    Calls Tryz.prog 5 #[lv l tv nv, wdv, .int .u16 pt] w (PV (.bool true) w) := by
  obtain ⟨owd, cwd, rfl⟩ := hwd.open
  have HWD := Lib.hid hwd
  clear hwd
  obtain ⟨m, hm⟩ : ∃ m, pt % 2001 = m := ⟨_, rfl⟩
  have hm0 : 0 ≤ m ∧ m ≤ 2000 := by omega
  have htm : pt.tmod 2001 = m := by rw [Int.tmod_eq_emod_of_nonneg h0.1]; exact hm
  clear hm
  have HA := Lib.hid (And.intro ht hn)
  have HR := Lib.hid (ready_any l tv nv (w.alloc (.cells (lcells l tv nv) 30)) (ht.alloc _) (hn.alloc _))
  obtain ⟨on, cn, rfl⟩ := hn.open
  clear ht hn
  obtain ⟨rd, hrd⟩ : ∃ rd, readyL l = rd := ⟨_, rfl⟩
  rw [hrd] at HR
  have HRD := Lib.hid hrd
  clear hrd
  go_enter Tryz.func5, Tryz.ntmps5
  go_wp2_with fail
  refine HR.out.mono ?_
  rintro e W1 ⟨rfl, hb⟩
  have hk0 := (hb.block w.heap.size (by simp)).trans (heap_new0 w (.cells (lcells l tv (.slice on l.notes.length cn)) 30))
  have HB1 := Lib.hid (And.intro (show Below w.heap.size w W1 from (by repeat (first | exact Below.refl _ _ | assumption | refine bgo ?_ (by assumption) | refine bgoAlloc ?_ _ | refine bgoDrew ?_ | refine bgoSet ?_ (by simp; omega) _))) hk0)
  obtain ⟨c0, f0, l0⟩ := cells_of_block hk0
  clear hb hk0
  cases rd
  · clear c0 f0 l0
    go_wp2_with fail
    refine (awake_any _).mono ?_
    rintro e W2 ⟨rfl, hb⟩
    have HB2 := Lib.hid (bgo HB1.out.1 hb)
    clear hb
    go_wp2_with fail
    go_returns
    exact ⟨by simp, HB2.out⟩
  obtain ⟨hz, hS, ht5, hn5, _, _⟩ := readyL_facts HRD.out
  have hw0 := (soundF_of hS.field).weed0
  have hw3 := (soundF_of hS.field).weed1
  have HM := Lib.hid (And.intro hz (And.intro hS (And.intro ht5 (And.intro hn5 (And.intro hw0 hw3)))))
  clear hz hS ht5 hw0 hw3
  have HK1 := Lib.hid (Keeps.one HB1.out.1 HB1.out.2)
  obtain ⟨ot, ct, rfl⟩ := HA.out.1.open
  go_wp2_with fail
  refine (Noted_any HM.out.2.1 (.slice ot l.field.tallies.length ct) (.slice on l.notes.length cn) (.slice owd words.length cwd) words W1 (HA.out.1.below HK1.out.below (Nat.le_refl _)) (HA.out.2.below HK1.out.below (Nat.le_refl _)) (HWD.out.below HK1.out.below (Nat.le_refl _))).mono ?_
  rintro e W2 ⟨rows, ps, ns, box, uu, vv, no, nc, rfl, hns, hrows, hps, htr, hn5, hb⟩
  obtain ⟨ro, rc, rfl⟩ := hrows.open
  obtain ⟨po, pc, rfl⟩ := hps.open
  obtain ⟨X, hX⟩ : ∃ X, notedG l box ns = X := ⟨_, rfl⟩
  have hXf : X.field = l.field := by rw [← hX]; rfl
  have hXn : X.notes = ns := by rw [← hX]; rfl
  rw [hX] at htr ⊢
  subst hXn
  have HTR := Lib.hid htr
  have htX := ((HA.out.1.below HK1.out.below (Nat.le_refl _)).below hb (Nat.le_refl _))
  rw [← hXf] at htX ⊢
  have HB2 := Lib.hid (bgo HK1.out.below hb)
  have HX2 := Lib.hid (And.intro htX (And.intro hns (And.intro hrows hps)))
  clear htr hX hXf htX hb hns hrows hps c0 f0 l0
  go_wp2_with fail
  refine gworldC fun W3 hW3 => ?_
  have hb3 : Below W2.heap.size W2 W3 := by rw [hW3]; exact bgoAlloc (bgoAlloc (Below.refl _ _) _) _
  have hx3 : W3.heap[W2.heap.size]? = some (.cells (lcells X (.slice ot X.field.tallies.length ct) (.slice no X.notes.length nc)) 30 (0, 0)) := by rw [hW3]; exact (Below.heap_alloc _ _ _ (by simp)).trans (heap_new0 _ _)
  have ht3 : W3.heap[W2.heap.size + 1]? = some (.cells #[.slice ro rows.length rc, .slice po ps.length pc] 70 (0, 0)) := by rw [hW3]; exact heap_new1 _ _ _
  have HBV := Lib.hid (bgo HB2.out hb3)
  have HAX := Lib.hid (And.intro (HX2.out.1.below hb3 (Nat.le_refl _)) (And.intro (HX2.out.2.1.below hb3 (Nat.le_refl _)) (And.intro (SlAt.below HX2.out.2.2.1 hb3 (Nat.le_refl _)) (SlAt.below HX2.out.2.2.2 hb3 (Nat.le_refl _)))))
  have HK3 := Lib.hid ((Keeps.one (Below.refl _ _) hx3).more ht3 (last_block ht3))
  obtain ⟨c0, f0, l0⟩ := cells_of_block hx3
  obtain ⟨c1, f1, l1⟩ := cells_of_block ht3
  obtain ⟨rd2, hrd2⟩ : ∃ rd, readyL X = rd := ⟨_, rfl⟩
  have HRX := Lib.hid (ready_any X (.slice ot X.field.tallies.length ct) (.slice no X.notes.length nc) W3 HAX.out.1 HAX.out.2.1)
  rw [hrd2] at HRX
  have HRD2 := Lib.hid hrd2
  clear hrd2 hW3 hb3 hx3 ht3 HX2
  refine HRX.out.mono ?_
  rintro e W4 ⟨rfl, hb⟩
  clear HRX
  have HK4 := Lib.hid (HK3.out.next hb)
  clear hb
  (try clear c0 f0)
  (try clear c1 f1)
  obtain ⟨c0, f0, l0⟩ := cells_of_block HK4.out.blk.2
  obtain ⟨c1, f1, l1⟩ := cells_of_block HK4.out.blk.1
  cases rd2
  · go_wp2_with fail
    refine (awake_any _).mono ?_
    rintro e W5 ⟨rfl, hb⟩
    have HB5 := Lib.hid (bgo HK4.out.below hb)
    clear hb
    go_wp2_with fail
    go_returns
    exact ⟨by simp, bgo HBV.out HB5.out⟩
  obtain ⟨hz, hS, ht5, hn5', _, _⟩ := readyL_facts HRD2.out
  have hw0 := (soundF_of hS.field).weed0
  have hw3 := (soundF_of hS.field).weed1
  have HMX := Lib.hid (And.intro hz (And.intro hS (And.intro ht5 (And.intro hn5' (And.intro hw0 hw3)))))
  have HAS := Lib.hid (HTR.out.asked hz)
  clear hz hS ht5 hn5'
  have hin : inB m 0 2000 = true := by unfold inB; simp; omega
  have hrl := row_len HMX.out.2.1 HTR.out.rowsT
  obtain ⟨n, hnw⟩ : ∃ n : Nat, X.field.weeders = n := ⟨X.field.weeders.toNat, by omega⟩
  have hwt : X.field.weeders.toNat = n := by omega
  have hn3 : n ≤ 3 := by omega
  have HNW := Lib.hid (And.intro hnw hwt)
  have HDN := Lib.hid (fun (W : World) (h : IntsAt W (.slice ro rows.length rc) rows) => zDone_any X (.slice ot X.field.tallies.length ct) (.slice no X.notes.length nc) (.slice ro rows.length rc) rows W h (by omega) (by omega) hw3)
  rw [hwt] at HDN
  have hdb := doneZ_bd n rows
  have hdl := doneZ_len n rows
  have hds := done_sum HMX.out.2.1 HTR.out.rowsT
  rw [hwt] at hds
  have HDS := Lib.hid hds
  have hnz : sumI (doneZ n rows) = 0 → noneS X (duesT X) = true := fun h => by
    rw [none_plain HMX.out.2.1, List.any_eq_true]
    refine ⟨rows, (mem_rowsL HMX.out.2.1).2 ⟨HTR.out.rowsT, HTR.out.can []⟩, ?_⟩
    rw [hwt, h]
    rfl
  have hshare : noneS X (duesT X) = false → ∀ i, i < n → ((shrL X m (duesT X)).getD i (0, 0)).1 ≤ (rshareL m (doneZ n rows)).getD i 0 ∧ (rshareL m (doneZ n rows)).getD i 0 ≤ ((shrL X m (duesT X)).getD i (0, 0)).2 := fun h i hi => by
    have := HTR.out.share HMX.out.1 hm0 h (i := i) (by omega)
    rw [hwt] at this
    exact this
  have hsum : 0 < sumI (doneZ n rows) → sumI (rshareL m (doneZ n rows)) = m := fun h => by
    have := share_sum HMX.out.2.1 (t := rows) (by rw [hwt]; exact h) m
    rw [hwt] at this
    exact this
  have hslen : noneS X (duesT X) = false → (shrL X m (duesT X)).length = n := fun h => by
    have := (shares_plain HAS.out hm0 h).1
    rw [hwt] at this
    exact this
  generalize doneZ n rows = D at *
  have HD := Lib.hid (And.intro hdb (And.intro hdl (And.intro hnz (And.intro hshare (And.intro hsum hslen)))))
  obtain ⟨sm, hsm⟩ : ∃ s, sumI D = s := ⟨_, rfl⟩
  have HSM := Lib.hid hsm
  obtain ⟨ns, hns⟩ : ∃ b, noneS X (duesT X) = b := ⟨_, rfl⟩
  have HNS := Lib.hid hns
  have HSE := Lib.hid (show shareErr X m = if ns = true then 7 else 0 from by unfold shareErr; rw [hin, HAS.out, hns]; simp)
  clear hin hnw hwt hdb hdl hds hnz hshare hsum hslen hsm hns hw0 hw3
  cases ns
  case true =>
    have HSE7 := Lib.hid (show shareErr X m = 7 from by rw [HSE.out]; rfl)
    have hleft : (X.field.left.2 == X.field.rows) = true := by rw [beq_iff_eq]; exact none_left HMX.out.2.1 HNS.out
    go_wp2_with fail
    refine (Ledger_any (X) (.slice ot X.field.tallies.length ct) (.slice no X.notes.length nc) W4 (HAX.out.1.below HK4.out.below (Nat.le_refl _)) (HAX.out.2.1.below HK4.out.below (Nat.le_refl _)) (by have := HMX.out.2.2.1; omega) (by have := HMX.out.2.2.2.1; omega)).mono ?_
    rintro e W5 ⟨a5, b5, rfl, ht5, hn5, hb⟩
    have HL5 := Lib.hid (And.intro ht5 hn5)
    clear ht5 hn5
    have HK5 := Lib.hid (HK4.out.next hb)
    clear hb
    (try clear c0 f0)
    (try clear c1 f1)
    obtain ⟨c0, f0, l0⟩ := cells_of_block HK5.out.blk.2
    obtain ⟨c1, f1, l1⟩ := cells_of_block HK5.out.blk.1
    go_wp2_with fail
    refine (Share_any X a5 b5 m W5 HL5.out.1 HL5.out.2).mono ?_
    rintro e W6 ⟨hb, ⟨_, rfl⟩ | ⟨h0', _⟩⟩
    case inr => exact absurd (HSE7.out.symm.trans h0') (by decide)
    rw [HSE7.out]
    have HK6 := Lib.hid (HK5.out.next hb)
    clear hb
    (try clear c0 f0)
    (try clear c1 f1)
    obtain ⟨c0, f0, l0⟩ := cells_of_block HK6.out.blk.2
    obtain ⟨c1, f1, l1⟩ := cells_of_block HK6.out.blk.1
    go_wp2_with fail
    refine (HDN.out W6 (HAX.out.2.2.1.below HK6.out.below (Nat.le_refl _))).mono ?_
    rintro e W7 ⟨u7, rfl, hu7, hb⟩
    obtain ⟨do7, dc7, rfl⟩ := owns_slice hu7
    have HU7 := Lib.hid (SlAt.of_owns hu7)
    clear hu7
    have HK7 := Lib.hid (HK6.out.next hb)
    clear hb
    (try clear c0 f0)
    (try clear c1 f1)
    obtain ⟨c0, f0, l0⟩ := cells_of_block HK7.out.blk.2
    obtain ⟨c1, f1, l1⟩ := cells_of_block HK7.out.blk.1
    have HK7 := Lib.hid (HK7.out.add HU7.out (last_at HU7.out))
    go_wp2_with fail
    have HSU := Lib.hid (zSum_any D (.slice do7 n dc7) W7 (IntsAt.of_at HK7.out.is.1 HD.out.2.1) (fun z hz => by have := HD.out.1 z hz; omega) (by have := HD.out.2.1; omega))
    rw [HSM.out] at HSU
    refine HSU.out.mono ?_
    rintro e W8 ⟨rfl, hb⟩
    clear HSU
    have HK8 := Lib.hid (HK7.out.next hb)
    clear hb
    (try clear c0 f0)
    (try clear c1 f1)
    obtain ⟨c0, f0, l0⟩ := cells_of_block HK8.out.blk.2
    obtain ⟨c1, f1, l1⟩ := cells_of_block HK8.out.blk.1
    by_cases hs0 : sm = 0
    · have hsb : (sm == 0) = true := by simpa using hs0
      go_wp2_with fail
      refine (awake_any _).mono ?_
      rintro e W9 ⟨rfl, hb⟩
      have HB9 := Lib.hid (bgo HK8.out.below hb)
      clear hb
      go_wp2_with fail
      go_returns
      exact ⟨by simp, bgo HBV.out HB9.out⟩
    · have hsb : (sm == 0) = false := by simpa using hs0
      go_wp2_with fail
      refine (awake_any _).mono ?_
      rintro e W9 ⟨rfl, hb⟩
      have HB9 := Lib.hid (bgo HK8.out.below hb)
      clear hb
      go_wp2_with fail
      go_returns
      exact ⟨by simp, bgo HBV.out HB9.out⟩
  have hs0 : sm ≠ 0 := fun h => by
    have := HD.out.2.2.1 (HSM.out.trans h)
    rw [HNS.out] at this
    cases this
  have hsp : 0 < sm := by have := HDS.out.1; have := HSM.out; omega
  have HSE0 := Lib.hid (show shareErr X m = 0 from by rw [HSE.out]; rfl)
  have hsb : (sm == 0) = false := by simpa using hs0
  have hsh := HD.out.2.2.2.1 HNS.out
  have hsl := HD.out.2.2.2.2.2 HNS.out
  obtain ⟨S, hSS⟩ : ∃ S, shrL X m (duesT X) = S := ⟨_, rfl⟩
  rw [hSS] at hsh hsl
  have hrl2 : (rshareL m D).length = n := by rw [rshareP_len, HD.out.2.1]
  have HZS := Lib.hid (fun (W : World) (v : Value) (h : IntsAt W v D) => zShare_any m D v W h hm0 (by have := HSM.out; omega) (fun z hz => by have := HD.out.1 z hz; omega) (by have := HD.out.2.1; omega))
  have hrs := HD.out.2.2.2.2.1 (by have := HSM.out; omega)
  have hqb : ∀ z ∈ rshareL m D, 0 ≤ z ∧ z ≤ 2000 := fun z hz => by
    obtain ⟨i, hi, rfl⟩ := List.getElem_of_mem hz
    have h1 : 0 < sumI D := by have := HSM.out; omega
    have h3 : D.length ≤ 3 := by have := HD.out.2.1; omega
    have h2 := share_in (of := m) hm0 h1 (fun z hz => by have := HD.out.1 z hz; omega) h3 (i := i) (by rw [rshareP_len] at hi; exact hi)
    rw [share_eq h1 h3] at h2
    rw [show (rshareL m D).getD i 0 = (rshareL m D)[i] from by simp [List.getD, hi]] at h2
    exact h2
  generalize rshareL m D = Q at *
  have HQB := Lib.hid hqb
  clear hqb
  have HS := Lib.hid (And.intro hSS (And.intro hsh (And.intro hsl (And.intro hrl2 hrs))))
  clear hsh hsl hSS hrl2 hrs
  go_wp2_with fail
  refine (Ledger_any (X) (.slice ot X.field.tallies.length ct) (.slice no X.notes.length nc) W4 (HAX.out.1.below HK4.out.below (Nat.le_refl _)) (HAX.out.2.1.below HK4.out.below (Nat.le_refl _)) (by have := HMX.out.2.2.1; omega) (by have := HMX.out.2.2.2.1; omega)).mono ?_
  rintro e W5 ⟨a5, b5, rfl, ht5, hn5, hb⟩
  have HL5 := Lib.hid (And.intro ht5 hn5)
  clear ht5 hn5
  have HK5 := Lib.hid (HK4.out.next hb)
  clear hb
  (try clear c0 f0)
  (try clear c1 f1)
  obtain ⟨c0, f0, l0⟩ := cells_of_block HK5.out.blk.2
  obtain ⟨c1, f1, l1⟩ := cells_of_block HK5.out.blk.1
  go_wp2_with fail
  refine (Share_any X a5 b5 m W5 HL5.out.1 HL5.out.2).mono ?_
  rintro e W6 ⟨hb, ⟨hne, _⟩ | ⟨_, u6, rfl, hu6⟩⟩
  · exact absurd HSE0.out hne
  rw [HS.out.1] at hu6
  obtain ⟨uo6, uc6, rfl⟩ := hu6.open
  have hv6 : SlAt 2 W6 (.slice uo6 n uc6) n (pairCells S) := by have := PairsAt.at_ hu6 HS.out.2.2.1; rw [HS.out.2.2.1] at this; exact this
  rw [HS.out.2.2.1]
  have HV6 := Lib.hid hv6
  clear hu6 hv6
  have HK6 := Lib.hid (HK5.out.next hb)
  clear hb
  (try clear c0 f0)
  (try clear c1 f1)
  obtain ⟨c0, f0, l0⟩ := cells_of_block HK6.out.blk.2
  obtain ⟨c1, f1, l1⟩ := cells_of_block HK6.out.blk.1
  have HK6 := Lib.hid (HK6.out.add HV6.out (last_at HV6.out))
  go_wp2_with fail
  refine (HDN.out W6 (HAX.out.2.2.1.below HK6.out.below (Nat.le_refl _))).mono ?_
  rintro e W7 ⟨u7, rfl, hu7, hb⟩
  obtain ⟨do7, dc7, rfl⟩ := owns_slice hu7
  have HU7 := Lib.hid (SlAt.of_owns hu7)
  clear hu7
  have HK7 := Lib.hid (HK6.out.next hb)
  clear hb
  (try clear c0 f0)
  (try clear c1 f1)
  obtain ⟨c0, f0, l0⟩ := cells_of_block HK7.out.blk.2
  obtain ⟨c1, f1, l1⟩ := cells_of_block HK7.out.blk.1
  have HK7 := Lib.hid (HK7.out.add HU7.out (last_at HU7.out))
  go_wp2_with fail
  have HSU := Lib.hid (zSum_any D (.slice do7 n dc7) W7 (IntsAt.of_at HK7.out.is.1 HD.out.2.1) (fun z hz => by have := HD.out.1 z hz; omega) (by have := HD.out.2.1; omega))
  rw [HSM.out] at HSU
  refine HSU.out.mono ?_
  rintro e W8 ⟨rfl, hb⟩
  clear HSU
  have HK8 := Lib.hid (HK7.out.next hb)
  clear hb
  (try clear c0 f0)
  (try clear c1 f1)
  obtain ⟨c0, f0, l0⟩ := cells_of_block HK8.out.blk.2
  obtain ⟨c1, f1, l1⟩ := cells_of_block HK8.out.blk.1
  go_wp2_with fail
  refine (HZS.out W8 (.slice do7 n dc7) (IntsAt.of_at HK8.out.is.1 HD.out.2.1)).mono ?_
  rintro e W9 ⟨u9, rfl, hu9, hb⟩
  have hu9 := SlAt.of_owns hu9
  rw [HS.out.2.2.2.1] at hu9
  obtain ⟨uo9, uc9, rfl⟩ : ∃ o c, u9 = .slice o n c := by
    obtain ⟨_, o, c, h, _⟩ := hu9
    exact ⟨o, c, h⟩
  have HU9 := Lib.hid hu9
  clear hu9
  have HK9 := Lib.hid (HK8.out.next hb)
  clear hb
  (try clear c0 f0)
  (try clear c1 f1)
  obtain ⟨c0, f0, l0⟩ := cells_of_block HK9.out.blk.2
  obtain ⟨c1, f1, l1⟩ := cells_of_block HK9.out.blk.1
  have HK9 := Lib.hid (HK9.out.add HU9.out (last_at HU9.out))
  go_wp2_with fail
  clear c0 f0 c1 f1
  go_loopw [14] (fun u wr => ∃ i : Nat, i ≤ n ∧ u = .int .i64 i ∧ Below W9.heap.size W9 wr) (fun u _ => n - (intOf u).toNat)
  case atStart => exact ⟨0, Nat.zero_le _, rfl, Below.refl _ _⟩
  case round =>
    obtain ⟨i, hi, rfl, hb⟩ := hrel
    generalize wr = W10 at *
    have HB10 := Lib.hid hb
    have HK10 := Lib.hid (HK9.out.next hb)
    clear hb
    (try clear c0 f0)
    (try clear c1 f1)
    obtain ⟨c0, f0, l0⟩ := cells_of_block HK10.out.blk.2
    obtain ⟨c1, f1, l1⟩ := cells_of_block HK10.out.blk.1
    clear c0 f0 c1 f1
    by_cases hlt : i < n
    · have hltI : (i : Int) < n := by omega
      have hiS : i < S.length := by rw [HS.out.2.2.1]; exact hlt
      have hiQ : i < Q.length := by rw [HS.out.2.2.2.1]; exact hlt
      obtain ⟨b3, o3, h3, j3, p0, p1⟩ := PairsAt.cell (l := S) HK10.out.is.2.2.1 hiS
      obtain ⟨b4, o4, h4, j4, p2⟩ := IntsAt.cell (l := Q) HK10.out.is.1 hiQ
      have hin := HS.out.2.1 i hlt
      rw [show S.getD i (0, 0) = S[i] from by simp [List.getD, hiS], show Q.getD i 0 = Q[i] from by simp [List.getD, hiQ]] at hin
      generalize S[i] = r at *
      generalize Q[i] = y at *
      obtain ⟨r0, r1⟩ := r
      simp only at hin p0 p1
      have HIN := Lib.hid (fun W : World => in_any y (r0, r1) W)
      rw [show inB y (r0, r1).1 (r0, r1).2 = true from by unfold inB; simp; omega] at HIN
      cases h3
      cases h4
      clear hin
      go_wp2_with fail
      refine wp_region_rg 9 [] none [(8, Spec.val (.bool true))] (by as_aux_lemma => kernel_rfl) (by as_aux_lemma => kernel_rfl) ?_
      simp only [List.take_succ_cons, List.take_zero, List.drop_succ_cons, List.drop_zero]
      repeat (first | (refine tree_det (by rfl) _ (by rfl) (fun W hW => by go_simp; (try simp (disch := omega) only [IntWalk.i64_in]); try rfl) ?_; simp only [Act.put, List.setIfInBounds_toArray, List.set_cons_succ, List.set_cons_zero]) | (refine tree_skip (by rfl) (by rfl) ?_; simp only [Act.put, List.setIfInBounds_toArray, List.set_cons_succ, List.set_cons_zero]))
      refine tree_val _ (by rfl) (by rfl) 40 #[iv y, rv (r0, r1)] (fun W hW => by go_simp; try rfl) (fun W hE hF => by exact HIN.out W) ?_
      simp only [Act.put, List.setIfInBounds_toArray, List.set_cons_succ, List.set_cons_zero]
      repeat (first | (refine tree_det (by rfl) _ (by rfl) (fun W hW => by go_simp; (try simp (disch := omega) only [IntWalk.i64_in]); try rfl) ?_; simp only [Act.put, List.setIfInBounds_toArray, List.set_cons_succ, List.set_cons_zero]) | (refine tree_skip (by rfl) (by rfl) ?_; simp only [Act.put, List.setIfInBounds_toArray, List.set_cons_succ, List.set_cons_zero]))
      intro Y hE hF
      have HY := Lib.hid (bgo HB10.out (Ext.below (show Ext [] W10 Y from hE)))
      clear hE hF p0 p1 p2
      go_wp2_with fail
      go_roundw
      case rel => exact ⟨i + 1, by omega, by go_num, HY.out⟩
      case measure => simp [intOf]; omega
    · have hnl : ¬ (i : Int) < n := by omega
      go_wp2_with fail
      have HSU := Lib.hid (zSum_any Q (.slice uo9 n uc9) W10 (IntsAt.of_at HK10.out.is.1 HS.out.2.2.2.1) (fun z hz => by have := HQB.out z hz; omega) (by have := HS.out.2.2.2.1; omega))
      rw [HS.out.2.2.2.2] at HSU
      refine HSU.out.mono ?_
      rintro e W11 ⟨rfl, hb⟩
      clear HSU
      have HK11 := Lib.hid (HK10.out.next hb)
      clear hb
      have hmm : (m == m) = true := by simp
      go_wp2_with fail
      refine (awake_any _).mono ?_
      rintro e W12 ⟨rfl, hb⟩
      have HB12 := Lib.hid (bgo HK11.out.below hb)
      clear hb
      go_wp2_with fail
      go_returns
      exact ⟨by simp, bgo HBV.out HB12.out⟩
end Go.Proofs.YtdjgikcnmokjkaaGreat

/-
  Contracts of the reference of package weed, third part: Many, Fault; of the law: Thin.
-/
import Derived.WalkKit
import Derived.WalkLawsBesides
import Derived.WalkSpells
import Derived.Outline
import Derived.Handy
import Derived.KernelRfl
import Derived.Lib.Hide
import Derived.Deep.Cut
import Derived.Test.YtdjgikcnmokjkaaRB
namespace Go.Proofs.Ytdjgikcnmokjkaa
open Go.RowKit Go.RG Go.SL Go.Shelf Cou Go.TB
set_option maxHeartbeats 400000
set_option maxRecDepth 10000

theorem rMany_any (f : FieldD) (tv : Value) (w : World) (h0 : 1 ≤ f.rows) (h1 : f.rows ≤ 7) (h2 : 1 ≤ f.weeders) (h3 : f.weeders ≤ 3) :
    Calls Try.prog 33 #[fv f tv] w (PV (iv ((f.weeders + 1) ^ f.rows.toNat)) w) := by
  have HP := Lib.hid (fun (k : Nat) (hk : k ≤ 7) => powF_bd' (b := f.weeders + 1) (by omega) (by omega) k hk)
  obtain ⟨n, hn⟩ : ∃ n : Nat, f.rows = n := ⟨f.rows.toNat, by omega⟩
  have hn7 : n ≤ 7 := by omega
  have HN := Lib.hid hn
  rw [hn, Int.toNat_natCast]
  obtain ⟨r, hr⟩ : ∃ r, (f.weeders + 1) ^ n = r := ⟨_, rfl⟩
  rw [hr]
  have HR := Lib.hid hr
  clear hn hr
  go_enter Try.func33, Try.ntmps33
  go_wp2_with fail
  go_loop [3, 4] (fun m i => ∃ k : Nat, k ≤ n ∧ i = .int .i64 k ∧ m = .int .i64 ((f.weeders + 1) ^ k)) (fun _ i => n - (intOf i).toNat)
  case atStart => exact ⟨0, Nat.zero_le _, rfl, by simp⟩
  case round =>
    obtain ⟨k, hk, rfl, rfl⟩ := hrel
    obtain ⟨p1, p2⟩ := HP.out k (by omega)
    by_cases hlt : k < n
    · have hkI : (k : Int) < f.rows := by have := HN.out; omega
      obtain ⟨q1, q2⟩ := HP.out (k + 1) (by omega)
      have HE := Lib.hid (Int.pow_succ (f.weeders + 1) k)
      rw [Int.pow_succ] at q1 q2
      generalize (f.weeders + 1) ^ k = m at p1 p2 q1 q2 HE ⊢
      go_wp2
      go_round
      case rel => exact ⟨k + 1, by omega, by go_num, by rw [HE.out]⟩
      case measure => simp [intOf]; omega
    · have hkn : k = n := by omega
      subst hkn
      have hkI : ¬ (k : Int) < f.rows := by have := HN.out; omega
      rw [HR.out] at p1 p2 ⊢
      go_wp2
      go_returns
      exact ⟨by simp, (by repeat (first | exact Below.refl _ _ | assumption | refine bgo ?_ (by assumption) | refine bgoAlloc ?_ _ | refine bgoDrew ?_ | refine bgoSet ?_ (by simp; omega) _))⟩

theorem rFault_lim1 (f : FieldD) (o : Option Addr) (n c : Nat) (w : World) (a1 : 7 < f.rows) : Calls Try.prog 6 #[fv f (.slice o n c)] w (PV (iv 3) w) := by
  go_enter Try.func6, Try.ntmps6
  go_wp2
  go_returns
  exact ⟨by simp, (by repeat (first | exact Below.refl _ _ | assumption | refine bgo ?_ (by assumption) | refine bgoAlloc ?_ _ | refine bgoDrew ?_ | refine bgoSet ?_ (by simp; omega) _))⟩
theorem rFault_lim2 (f : FieldD) (o : Option Addr) (n c : Nat) (w : World) (a1 : ¬ 7 < f.rows) (a2 : 3 < f.weeders) : Calls Try.prog 6 #[fv f (.slice o n c)] w (PV (iv 3) w) := by
  go_enter Try.func6, Try.ntmps6
  go_wp2
  go_returns
  exact ⟨by simp, (by repeat (first | exact Below.refl _ _ | assumption | refine bgo ?_ (by assumption) | refine bgoAlloc ?_ _ | refine bgoDrew ?_ | refine bgoSet ?_ (by simp; omega) _))⟩
theorem rFault_lim3 (f : FieldD) (o : Option Addr) (n c : Nat) (w : World) (a1 : ¬ 7 < f.rows) (a2 : ¬ 3 < f.weeders) (a3 : (5 : Int) < n) : Calls Try.prog 6 #[fv f (.slice o n c)] w (PV (iv 3) w) := by
  go_enter Try.func6, Try.ntmps6
  go_wp2
  go_returns
  exact ⟨by simp, (by repeat (first | exact Below.refl _ _ | assumption | refine bgo ?_ (by assumption) | refine bgoAlloc ?_ _ | refine bgoDrew ?_ | refine bgoSet ?_ (by simp; omega) _))⟩
theorem rFault_arg1 (f : FieldD) (o : Option Addr) (n c : Nat) (w : World) (a1 : ¬ 7 < f.rows) (a2 : ¬ 3 < f.weeders) (a3 : ¬ (5 : Int) < n) (b1 : f.rows < 1) : Calls Try.prog 6 #[fv f (.slice o n c)] w (PV (iv 1) w) := by
  go_enter Try.func6, Try.ntmps6
  go_wp2
  go_returns
  exact ⟨by simp, (by repeat (first | exact Below.refl _ _ | assumption | refine bgo ?_ (by assumption) | refine bgoAlloc ?_ _ | refine bgoDrew ?_ | refine bgoSet ?_ (by simp; omega) _))⟩
theorem rFault_arg2 (f : FieldD) (o : Option Addr) (n c : Nat) (w : World) (a1 : ¬ 7 < f.rows) (a2 : ¬ 3 < f.weeders) (a3 : ¬ (5 : Int) < n) (b1 : ¬ f.rows < 1) (b2 : f.weeders < 1) : Calls Try.prog 6 #[fv f (.slice o n c)] w (PV (iv 1) w) := by
  go_enter Try.func6, Try.ntmps6
  go_wp2
  go_returns
  exact ⟨by simp, (by repeat (first | exact Below.refl _ _ | assumption | refine bgo ?_ (by assumption) | refine bgoAlloc ?_ _ | refine bgoDrew ?_ | refine bgoSet ?_ (by simp; omega) _))⟩
theorem rFault_arg3 (f : FieldD) (o : Option Addr) (n c : Nat) (w : World) (a1 : ¬ 7 < f.rows) (a2 : ¬ 3 < f.weeders) (a3 : ¬ (5 : Int) < n) (b1 : ¬ f.rows < 1) (b2 : ¬ f.weeders < 1) (b3 : okR f.left f.rows = false) :
    Calls Try.prog 6 #[fv f (.slice o n c)] w (PV (iv 1) w) := by
  go_enter Try.func6, Try.ntmps6
  go_wp2_with fail
  refine (rWithin_any f.left f.rows _).mono ?_
  rintro e w' ⟨rfl, hb⟩
  obtain ⟨hc, hf⟩ := bcell hb
  have hz0 : w.heap.size < w'.heap.size := (by have := hb.size; (try simp only [World.size_alloc] at this); omega)
  rw [b3]
  go_wp2_with fail
  go_returns
  exact ⟨by simp, (by repeat (first | exact Below.refl _ _ | assumption | refine bgo ?_ (by assumption) | refine bgoAlloc ?_ _ | refine bgoDrew ?_ | refine bgoSet ?_ (by simp; omega) _))⟩

theorem okTally_parts {f : FieldD} {t : Tly} : okTally f t = (inB t.1 0 (f.weeders - 1) && (inB t.2.1 0 (f.rows - 1) && (inB t.2.2.1 t.2.1 (f.rows - 1) && okR t.2.2.2 f.rows))) := by
  rw [Bool.eq_iff_iff]
  simp only [okTally, inB, Bool.and_eq_true, decide_eq_true_eq]
  constructor
  · rintro ⟨⟨⟨⟨a, b⟩, c⟩, d⟩, e⟩
    exact ⟨a, b, by omega, e⟩
  · rintro ⟨a, b, c, e⟩
    exact ⟨⟨⟨⟨a, b⟩, by omega⟩, by omega⟩, e⟩

/-- The tallies up to one stand. -/
def talTo (f : FieldD) (k : Nat) : Bool := (f.tallies.take k).all (okTally f)
theorem talTo_succ {f : FieldD} {k : Nat} (hk : k < f.tallies.length) : talTo f (k + 1) = (talTo f k && okTally f f.tallies[k]) := by
  unfold talTo
  rw [List.take_succ_eq_append_getElem hk, List.all_append]
  simp
theorem talTo_bad {f : FieldD} {k : Nat} (hk : k < f.tallies.length) (h : okTally f f.tallies[k] = false) : f.tallies.all (okTally f) = false := by
  rw [List.all_eq_false]
  exact ⟨_, List.getElem_mem hk, by simp [h]⟩

set_option maxHeartbeats 2000000 in
theorem rFault_body (f : FieldD) (o : Option Addr) (c : Nat) (w : World) (hx : TalliesAt w (.slice o f.tallies.length c) f.tallies) (a1 : ¬ 7 < f.rows) (a2 : ¬ 3 < f.weeders) (a3 : ¬ (5 : Int) < f.tallies.length) (b1 : ¬ f.rows < 1) (b2 : ¬ f.weeders < 1) (b3 : okR f.left f.rows = true) :
    Calls Try.prog 6 #[fv f (.slice o f.tallies.length c)] w (PV (iv (if f.tallies.all (okTally f) = false then 1 else if 2500 < (f.weeders + 1) ^ f.rows.toNat then 3 else 0)) w) := by
  have HT := Lib.hid hx
  obtain ⟨q, hq⟩ : ∃ q, (if f.tallies.all (okTally f) = false then 1 else if 2500 < (f.weeders + 1) ^ f.rows.toNat then 3 else 0 : Int) = q := ⟨_, rfl⟩
  rw [hq]
  have HQ := Lib.hid hq
  clear hx hq
  have hl5 : f.tallies.length ≤ 5 := by omega
  go_enter Try.func6, Try.ntmps6
  go_wp2_with fail
  refine (rWithin_any f.left f.rows _).mono ?_
  rintro e w1 ⟨rfl, hb⟩
  have H0 := Lib.hid (And.intro (show Below w.heap.size w w1 from bgo (bgoAlloc (Below.refl _ _) _) hb) (show w1.heap[w.heap.size]? = some (.cells (rfcells f (.slice o f.tallies.length c)) 26 (0, 0)) from (hb.block _ (by simp)).trans (heap_new0 _ _)))
  obtain ⟨c0, f0, l0⟩ := cells_of_block H0.out.2
  clear hb
  rw [b3]
  go_wp2_with fail
  clear c0 f0 l0
  go_loopw [3] (fun u wr => ∃ k : Nat, k ≤ f.tallies.length ∧ u = .int .i64 k ∧ talTo f k = true ∧ Below w1.heap.size w1 wr) (fun u _ => f.tallies.length - (intOf u).toNat)
  case atStart => exact ⟨0, Nat.zero_le _, rfl, rfl, Below.refl _ _⟩
  case round =>
    obtain ⟨k, hk, rfl, hok, hB⟩ := hrel
    have hBB := bgo H0.out.1 hB
    obtain ⟨c1, f1, l1⟩ := cells_of_block ((hB.block _ (cells_of_block H0.out.2).2.2).trans H0.out.2)
    have HB := Lib.hid (And.intro hB hBB)
    have HOK := Lib.hid hok
    clear hok
    by_cases hlt : k < f.tallies.length
    · have htt := HT.out.below hBB (Nat.le_refl _)
      obtain ⟨g, off, rfl, hg, d0, d1, d2, d3, d4⟩ := TalliesAt.cell htt hlt
      have hsu := talTo_succ hlt
      obtain ⟨z, hz⟩ : ∃ z, okTally f f.tallies[k] = z := ⟨_, rfl⟩
      have HBAD := Lib.hid (fun hf : z = false => talTo_bad hlt (hz.trans hf))
      rw [hz] at hsu
      rw [okTally_parts] at hz
      have HSU := Lib.hid hsu
      have hltI : (k : Int) < f.tallies.length := by omega
      clear hB hBB htt hsu
      generalize f.tallies[k] = y at *
      obtain ⟨y0, y1, y2, y3, y4⟩ := y
      simp only at d0 d1 d2 d3 d4 hz
      cases hA : inB y0 0 (f.weeders - 1)
      · obtain rfl : z = false := by rw [← hz, hA]; rfl
        have HA := Lib.hid hA
        have HHZ := Lib.hid hz
        obtain rfl : q = 1 := by rw [← HQ.out, if_pos (HBAD.out rfl)]
        clear hA hz
        go_wp2_with fail
        refine (rIn_any _ _ _ _).mono ?_
        rw [HA.out]
        rintro e w2 ⟨rfl, hb2⟩
        have HB2 := Lib.hid hb2
        clear hb2
        go_wp2_with fail
        go_returns
        exact ⟨by simp, bgo HB.out.2 (bgo (bgoAlloc (Below.refl _ _) _) HB2.out)⟩
      cases hC : inB y1 0 (f.rows - 1)
      · obtain rfl : z = false := by rw [← hz, hA, hC]; rfl
        have HA := Lib.hid hA
        have HC := Lib.hid hC
        have HHZ := Lib.hid hz
        obtain rfl : q = 1 := by rw [← HQ.out, if_pos (HBAD.out rfl)]
        clear hA hC hz
        go_wp2_with fail
        refine (rIn_any _ _ _ _).mono ?_
        rw [HA.out]
        rintro e w2 ⟨rfl, hb⟩
        have hBx : Below wr.heap.size wr w2 := by exact bgo (bgoAlloc (Below.refl _ _) _) hb
        have hKx : w2.heap[wr.heap.size]? = some (.cells #[iv y0, iv y1, iv y2, iv y3, iv y4] 81 (0, 0)) := (hb.block _ (by simp)).trans (heap_new0 _ _)
        have hTx := ((HB.out.1.mono (Nat.le_refl _)).trans (hBx.mono HB.out.1.size)).block _ (cells_of_block H0.out.2).2.2 |>.trans H0.out.2
        obtain ⟨d0, e0, l9⟩ := cells_of_block hKx
        obtain ⟨c1, f1, l1⟩ := cells_of_block hTx
        have HBx := Lib.hid hBx
        have HKx := Lib.hid (And.intro hKx hTx)
        clear hb hKx hTx hBx
        go_wp2_with fail
        refine (rIn_any _ _ _ _).mono ?_
        rw [HC.out]
        rintro e w3 ⟨rfl, hb3⟩
        have HB3 := Lib.hid hb3
        clear hb3
        go_wp2_with fail
        go_returns
        exact ⟨by simp, bgo HB.out.2 (bgo HBx.out HB3.out)⟩
      cases hD : inB y2 y1 (f.rows - 1)
      · obtain rfl : z = false := by rw [← hz, hA, hC, hD]; rfl
        have HA := Lib.hid hA
        have HC := Lib.hid hC
        have HD := Lib.hid hD
        have HHZ := Lib.hid hz
        obtain rfl : q = 1 := by rw [← HQ.out, if_pos (HBAD.out rfl)]
        clear hA hC hD hz
        go_wp2_with fail
        refine (rIn_any _ _ _ _).mono ?_
        rw [HA.out]
        rintro e w2 ⟨rfl, hb⟩
        have hBx : Below wr.heap.size wr w2 := by exact bgo (bgoAlloc (Below.refl _ _) _) hb
        have hKx : w2.heap[wr.heap.size]? = some (.cells #[iv y0, iv y1, iv y2, iv y3, iv y4] 81 (0, 0)) := (hb.block _ (by simp)).trans (heap_new0 _ _)
        have hTx := ((HB.out.1.mono (Nat.le_refl _)).trans (hBx.mono HB.out.1.size)).block _ (cells_of_block H0.out.2).2.2 |>.trans H0.out.2
        obtain ⟨d0, e0, l9⟩ := cells_of_block hKx
        obtain ⟨c1, f1, l1⟩ := cells_of_block hTx
        have HBx := Lib.hid hBx
        have HKx := Lib.hid (And.intro hKx hTx)
        clear hb hKx hTx hBx
        go_wp2_with fail
        refine (rIn_any _ _ _ _).mono ?_
        rw [HC.out]
        rintro e w3 ⟨rfl, hb⟩
        have hBy : Below wr.heap.size wr w3 := bgo HBx.out hb
        have hKy := (hb.block _ (cells_of_block HKx.out.1).2.2).trans HKx.out.1
        have hTy := (hb.block _ (cells_of_block HKx.out.2).2.2).trans HKx.out.2
        obtain ⟨d0, e0, l9⟩ := cells_of_block hKy
        obtain ⟨c1, f1, l1⟩ := cells_of_block hTy
        have HBy := Lib.hid hBy
        have HKy := Lib.hid (And.intro hKy hTy)
        clear hb hKy hTy hBy
        go_wp2_with fail
        refine (rIn_any _ _ _ _).mono ?_
        rw [HD.out]
        rintro e w4 ⟨rfl, hb3⟩
        have HB3 := Lib.hid hb3
        clear hb3
        go_wp2_with fail
        go_returns
        exact ⟨by simp, bgo HB.out.2 (bgo HBy.out HB3.out)⟩
      have HA := Lib.hid hA
      have HC := Lib.hid hC
      have HD := Lib.hid hD
      obtain ⟨s, hs⟩ : ∃ s, okR (y3, y4) f.rows = s := ⟨_, rfl⟩
      obtain rfl : s = z := by rw [← hz, hA, hC, hD, ← hs]; rfl
      have HS := Lib.hid hs
      clear hA hC hD hz hs
      go_wp2_with fail
      refine (rIn_any _ _ _ _).mono ?_
      rw [HA.out]
      rintro e w2 ⟨rfl, hb⟩
      have hBx : Below wr.heap.size wr w2 := by exact bgo (bgoAlloc (Below.refl _ _) _) hb
      have hKx : w2.heap[wr.heap.size]? = some (.cells #[iv y0, iv y1, iv y2, iv y3, iv y4] 81 (0, 0)) := (hb.block _ (by simp)).trans (heap_new0 _ _)
      have hTx := ((HB.out.1.mono (Nat.le_refl _)).trans (hBx.mono HB.out.1.size)).block _ (cells_of_block H0.out.2).2.2 |>.trans H0.out.2
      obtain ⟨d0, e0, l9⟩ := cells_of_block hKx
      obtain ⟨c1, f1, l1⟩ := cells_of_block hTx
      have HBx := Lib.hid hBx
      have HKx := Lib.hid (And.intro hKx hTx)
      clear hb hKx hTx hBx
      go_wp2_with fail
      refine (rIn_any _ _ _ _).mono ?_
      rw [HC.out]
      rintro e w3 ⟨rfl, hb⟩
      have hBy : Below wr.heap.size wr w3 := bgo HBx.out hb
      have hKy := (hb.block _ (cells_of_block HKx.out.1).2.2).trans HKx.out.1
      have hTy := (hb.block _ (cells_of_block HKx.out.2).2.2).trans HKx.out.2
      obtain ⟨d0, e0, l9⟩ := cells_of_block hKy
      obtain ⟨c1, f1, l1⟩ := cells_of_block hTy
      have HBy := Lib.hid hBy
      have HKy := Lib.hid (And.intro hKy hTy)
      clear hb hKy hTy hBy
      go_wp2_with fail
      refine (rIn_any _ _ _ _).mono ?_
      rw [HD.out]
      rintro e w4 ⟨rfl, hb⟩
      have hBz : Below wr.heap.size wr w4 := bgo HBy.out hb
      obtain ⟨d0, e0, l9⟩ := cells_of_block ((hb.block _ (cells_of_block HKy.out.1).2.2).trans HKy.out.1)
      obtain ⟨c1, f1, l1⟩ := cells_of_block ((hb.block _ (cells_of_block HKy.out.2).2.2).trans HKy.out.2)
      have HBz := Lib.hid hBz
      clear hb hBz
      go_wp2_with fail
      refine (rWithin_any (y3, y4) f.rows _).mono ?_
      rw [HS.out]
      rintro e w5 ⟨rfl, hb3⟩
      have HB3 := Lib.hid hb3
      clear hb3
      cases s
      · obtain rfl : q = 1 := by rw [← HQ.out, if_pos (HBAD.out rfl)]
        go_wp2_with fail
        go_returns
        exact ⟨by simp, bgo HB.out.2 (bgo HBz.out HB3.out)⟩
      · go_wp2_with fail
        go_roundw
        case rel => exact ⟨k + 1, by omega, by go_num, by rw [HSU.out, HOK.out]; rfl, bgo HB.out.1 (bgo HBz.out HB3.out)⟩
        case measure => simp [intOf]; omega
    · have hkl : k = f.tallies.length := by omega
      have hall : f.tallies.all (okTally f) = true := by
        have := HOK.out
        unfold talTo at this
        rwa [hkl, List.take_length] at this
      have hq2 : q = if 2500 < (f.weeders + 1) ^ f.rows.toNat then 3 else 0 := by rw [← HQ.out, hall, if_neg (by simp)]
      have hnl : ¬ (k : Int) < f.tallies.length := by omega
      have HM := Lib.hid (fun W => rMany_any f (.slice o f.tallies.length c) W (by omega) (by omega) (by omega) (by omega))
      obtain ⟨m, hm⟩ : ∃ m, (f.weeders + 1) ^ f.rows.toNat = m := ⟨_, rfl⟩
      rw [hm] at HM hq2
      have HQ2 := Lib.hid hq2
      clear hB hBB hall HQ hm hq2
      go_wp2_with fail
      refine (HM.out _).mono ?_
      rintro e w2 ⟨rfl, hb2⟩
      have HB2 := Lib.hid hb2
      clear hb2
      by_cases hm : 2500 < m
      · obtain rfl : q = 3 := by rw [HQ2.out, if_pos hm]
        go_wp2_with fail
        go_returns
        exact ⟨by simp, bgo HB.out.2 HB2.out⟩
      · obtain rfl : q = 0 := by rw [HQ2.out, if_neg hm]
        go_wp2_with fail
        go_returns
        exact ⟨by simp, bgo HB.out.2 HB2.out⟩

/-- **The error of a field, by the reference.** -/
theorem rFault_any (f : FieldD) (tv : Value) (w : World) (hx : TalliesAt w tv f.tallies) : Calls Try.prog 6 #[fv f tv] w (PV (iv (faultF f)) w) := by
  obtain ⟨o, c, rfl⟩ := hx.open
  by_cases ha : 7 < f.rows ∨ 3 < f.weeders ∨ 5 < f.tallies.length
  · rw [show faultF f = 3 from by unfold faultF; rw [if_pos ha]]
    by_cases a1 : 7 < f.rows
    · exact rFault_lim1 f o _ c w a1
    by_cases a2 : 3 < f.weeders
    · exact rFault_lim2 f o _ c w a1 a2
    exact rFault_lim3 f o _ c w a1 a2 (by omega)
  obtain ⟨a1, a2, a3⟩ : ¬ 7 < f.rows ∧ ¬ 3 < f.weeders ∧ ¬ (5 : Int) < f.tallies.length := by omega
  rw [show faultF f = if f.rows < 1 ∨ f.weeders < 1 ∨ okR f.left f.rows = false ∨ f.tallies.all (okTally f) = false then 1 else if 2500 < (f.weeders + 1) ^ f.rows.toNat then 3 else 0 from by
    unfold faultF; rw [if_neg ha]]
  by_cases b1 : f.rows < 1
  · rw [if_pos (.inl b1)]
    exact rFault_arg1 f o _ c w a1 a2 a3 b1
  by_cases b2 : f.weeders < 1
  · rw [if_pos (.inr (.inl b2))]
    exact rFault_arg2 f o _ c w a1 a2 a3 b1 b2
  by_cases b3 : okR f.left f.rows = false
  · rw [if_pos (.inr (.inr (.inl b3)))]
    exact rFault_arg3 f o _ c w a1 a2 a3 b1 b2 b3
  have hbody := rFault_body f o c w hx a1 a2 a3 b1 b2 (by simpa using b3)
  by_cases b4 : f.tallies.all (okTally f) = false
  · rw [if_pos b4] at hbody
    rw [if_pos (.inr (.inr (.inr b4)))]
    exact hbody
  · rw [if_neg b4] at hbody
    rw [if_neg (by simp only [not_or]; exact ⟨b1, b2, b3, b4⟩)]
    exact hbody

/-! ### Thin -/
def thinF (f : FieldD) : Bool := decide (f.tallies.length ≤ 7) && (decide (faultF f ≠ 0) || decide ((f.weeders + 1) ^ f.rows.toNat ≤ 250))

theorem rThin_any (f : FieldD) (tv : Value) (w : World) (hx : TalliesAt w tv f.tallies) : Calls Try.prog 5 #[fv f tv] w (PV (.bool (thinF f)) w) := by
  obtain ⟨o, c, rfl⟩ := hx.open
  obtain ⟨q, hq⟩ : ∃ q, thinF f = q := ⟨_, rfl⟩
  rw [hq]
  have HQ := Lib.hid hq
  have HT := Lib.hid hx
  clear hq hx
  by_cases h1 : (f.tallies.length : Int) ≤ 7
  case neg =>
    obtain rfl : q = false := by rw [← HQ.out]; simp [thinF]; omega
    go_enter Try.func5, Try.ntmps5
    go_wp2
    go_returns
    exact ⟨by simp, (by repeat (first | exact Below.refl _ _ | assumption | refine bgo ?_ (by assumption) | refine bgoAlloc ?_ _ | refine bgoDrew ?_ | refine bgoSet ?_ (by simp; omega) _))⟩
  by_cases h4 : faultF f = 0
  case neg =>
    obtain rfl : q = true := by rw [← HQ.out]; simp [thinF, h4]; omega
    obtain ⟨z, hf⟩ : ∃ z, faultF f = z := ⟨_, rfl⟩
    have h5 : (z != 0) = true := by rw [← hf]; simpa using h4
    have HFF := Lib.hid hf
    clear hf h4
    go_enter Try.func5, Try.ntmps5
    go_wp2_with fail
    refine (rFault_any f _ _ (HT.out.alloc _)).mono ?_
    rw [HFF.out]
    rintro e W1 ⟨rfl, hb⟩
    have HB := Lib.hid hb
    clear hb
    go_wp2_with fail
    go_returns
    exact ⟨by simp, bgo (bgoAlloc (Below.refl _ _) _) HB.out⟩
  have hS := soundF_of h4
  have HM := Lib.hid (fun W => rMany_any f (.slice o f.tallies.length c) W hS.rows0 hS.rows1 hS.weed0 hS.weed1)
  obtain ⟨m, hm⟩ : ∃ m, (f.weeders + 1) ^ f.rows.toNat = m := ⟨_, rfl⟩
  obtain rfl : q = decide (m ≤ 250) := by
    rw [← HQ.out, ← hm]
    simp only [thinF]
    rw [decide_eq_true (show f.tallies.length ≤ 7 by omega)]
    simp [h4]
  rw [hm] at HM
  have H4 := Lib.hid h4
  clear hm h4 hS
  go_enter Try.func5, Try.ntmps5
  go_wp2_with fail
  refine (rFault_any f _ _ (HT.out.alloc _)).mono ?_
  rw [H4.out]
  rintro e W1 ⟨rfl, hb⟩
  obtain ⟨hc, hf⟩ := bcell hb
  have hz0 : w.heap.size < W1.heap.size := by have := hb.size; simp only [World.size_alloc] at this; omega
  have HB := Lib.hid hb
  clear hb
  go_wp2_with fail
  refine (HM.out _).mono ?_
  rintro e W2 ⟨rfl, hb⟩
  have HB2 := Lib.hid hb
  clear hb
  go_wp2_with fail
  go_returns
  exact ⟨by simp, bgo (bgo (bgoAlloc (Below.refl _ _) _) HB.out) HB2.out⟩

end Go.Proofs.Ytdjgikcnmokjkaa

/-
  Contracts of package wage, seventh part: the error of a ledger.
-/
import Derived.WalkKit
import Derived.WalkLawsBesides
import Derived.WalkSpells
import Derived.Outline
import Derived.Handy
import Derived.KernelRfl
import Derived.Lib.Hide
import Derived.Test.YtdjgikcnmokjkaaQF
namespace Go.Proofs.Ytdjgikcnmokjkaa
open Go.RowKit Go.RG Go.SL Go.Shelf Cou Go.TB
set_option maxHeartbeats 400000
set_option maxRecDepth 10000

def argsB (l : LedgerD) : Bool := inB l.rate 1 50 && (amountsB l.box && l.notes.all (noteB l))
def faultW (l : LedgerD) : Int := if 5 < l.notes.length then 3 else if askFErr l.field true ≠ 0 then askFErr l.field true else if argsB l = false then 1 else if possibleL l (upto l.notes.length) = false then 9 else 0

theorem soundL_of {l : LedgerD} (h1 : ¬ 5 < l.notes.length) (h2 : askFErr l.field true = 0) (h3 : argsB l = true) : SoundL l := by
  have hf : faultF l.field = 0 := by
    unfold askFErr at h2
    split at h2
    · omega
    · rename_i h; omega
  obtain ⟨hS, hpos, _⟩ := ask_sound h2
  simp only [argsB, inB, amountsB, Bool.and_eq_true, decide_eq_true_eq, List.all_eq_true] at h3
  obtain ⟨⟨r1, r2⟩, ⟨b1, ⟨b2, b3⟩, b4, b5⟩, hn⟩ := h3
  refine ⟨hf, fun e => by rw [e] at hpos; simp at hpos, ⟨r1, r2⟩, ⟨by omega, by omega, by omega⟩, by omega, fun x hx => ?_⟩
  have := hn x hx
  simp only [noteB, inB, amountsB, Bool.and_eq_true, decide_eq_true_eq] at this
  omega

def evTo (n k : Nat) : List Int := (List.range n).map fun (i : Nat) => if i < k then (i : Int) else 0
theorem evTo_zero (n : Nat) : evTo n 0 = List.replicate n 0 := by
  unfold evTo
  simp only [Nat.not_lt_zero, if_false]
  rw [List.map_const', List.length_range]
theorem evTo_all (n : Nat) : evTo n n = upto n := by
  unfold evTo upto
  apply List.map_congr_left
  intro i hi
  rw [if_pos (List.mem_range.1 hi)]
theorem evTo_set {n k : Nat} (_hk : k < n) : (evTo n k).set k (k : Int) = evTo n (k + 1) := by
  refine List.ext_getElem (by simp [evTo]) fun i h1 h2 => ?_
  rw [List.getElem_set]
  simp only [evTo, List.getElem_map, List.getElem_range]
  by_cases e : k = i
  · subst e; simp
  · rw [if_neg e]
    by_cases h : i < k
    · rw [if_pos h, if_pos (by omega)]
    · rw [if_neg h, if_neg (by omega)]
theorem evTo_len (n k : Nat) : (evTo n k).length = n := by simp [evTo]

def CheckedPost (l : LedgerD) (tv nv : Value) (w : World) (e : Ending) (w' : World) : Prop :=
  Below w.heap.size w w' ∧ ((faultW l ≠ 0 ∧ e = .returned (.tuple #[.pointer none, iv (faultW l)])) ∨
    (faultW l = 0 ∧ ∃ (wb mb : Nat) (v : Value), e = .returned (.tuple #[.pointer (some ⟨wb, 0, none⟩), iv 0]) ∧ w.heap.size ≤ wb ∧ w.heap.size ≤ mb ∧ LwOk w' wb mb l tv nv v))

set_option maxHeartbeats 1600000 in
theorem checked_any (l : LedgerD) (tv nv : Value) (w : World) (ht : TalliesAt w tv l.field.tallies) (hn : TriplesAt w nv l.notes) (hwd : -1000 ≤ l.field.weeders ∧ l.field.weeders ≤ 1000) :
    Calls Try.prog 66 #[lv l tv nv] w (CheckedPost l tv nv w) := by
  obtain ⟨on, cn, rfl⟩ := hn.open
  obtain ⟨ot, ct, rfl⟩ := ht.open
  have hnl := hn.len
  have HN := Lib.hid hn
  have HT := Lib.hid ht
  clear hn ht
  by_cases h5 : 5 < l.notes.length
  · have HF : Hid (faultW l = 3) := Lib.hid (by unfold faultW; rw [if_pos h5])
    have h5I : (l.notes.length : Int) > 5 := by omega
    go_enter Try.func66, Try.ntmps66
    go_wp2_with fail
    go_returns
    exact ⟨(by repeat (first | exact Below.refl _ _ | assumption | refine bgo ?_ (by assumption) | refine bgoAlloc ?_ _ | refine bgoDrew ?_ | refine bgoSet ?_ (by simp; omega) _)), .inl ⟨by rw [HF.out]; simp, by rw [HF.out]; simp⟩⟩
  have h5I : ¬ ((l.notes.length : Int) > 5) := by omega
  have hW : faultW l = if askFErr l.field true ≠ 0 then askFErr l.field true else if argsB l = false then 1 else if possibleL l (upto l.notes.length) = false then 9 else 0 := by unfold faultW; rw [if_neg h5]
  have HD := Lib.hid (fun w ht => wDone_any l.field (.slice ot l.field.tallies.length ct) w ht)
  obtain ⟨q, hq⟩ : ∃ q, askFErr l.field true = q := ⟨_, rfl⟩
  rw [hq] at hW
  by_cases hq0 : q = 0
  case neg =>
    have HF : Hid (faultW l = q ∧ q ≠ 0 ∧ askFErr l.field true = q) := Lib.hid ⟨by rw [hW, if_pos hq0], hq0, hq⟩
    have hqb : (q != 0) = true := by simpa using hq0
    clear hW hq hq0
    go_enter Try.func66, Try.ntmps66
    go_wp2_with fail
    refine (HD.out _ (HT.out.alloc _)).mono ?_
    rintro e w1 ⟨hb, ⟨hne, rfl⟩ | ⟨h0, _⟩⟩
    · have HB := Lib.hid (show Below w.heap.size w w1 from (by repeat (first | exact Below.refl _ _ | assumption | refine bgo ?_ (by assumption) | refine bgoAlloc ?_ _ | refine bgoDrew ?_ | refine bgoSet ?_ (by simp; omega) _)))
      rw [HF.out.2.2]
      clear hb hne
      go_wp2_with fail
      go_returns
      exact ⟨HB.out, .inl ⟨by rw [HF.out.1]; exact HF.out.2.1, by rw [HF.out.1]; simp⟩⟩
    · exact absurd (HF.out.2.2.symm.trans h0) HF.out.2.1
  rw [if_neg (by rw [hq0]; simp)] at hW
  rw [hq0] at hq
  have HW := Lib.hid hW
  have HQ := Lib.hid hq
  clear hW hq hq0
  obtain ⟨r1, hr1⟩ : ∃ r1, inB l.rate 1 50 = r1 := ⟨_, rfl⟩
  obtain ⟨r2, hr2⟩ : ∃ r2, amountsB l.box = r2 := ⟨_, rfl⟩
  obtain ⟨r3, hr3⟩ : ∃ r3, l.notes.all (noteB l) = r3 := ⟨_, rfl⟩
  have hargs : argsB l = (r1 && (r2 && r3)) := by unfold argsB; rw [hr1, hr2, hr3]
  have H1 := Lib.hid (fun w => hr1 ▸ gwithin_any l.rate 1 50 w)
  have H2 := Lib.hid (fun w => hr2 ▸ amounts_any l.box w)
  have H3 := Lib.hid (fun (W : World) (hB : Below w.heap.size w W) =>
    hr3 ▸ allN_pure l.notes (.slice on l.notes.length cn) 93 #[lv l (.slice ot l.field.tallies.length ct) (.slice on l.notes.length cn)] #[] (noteB l) W (HN.out.below hB (Nat.le_refl _)) (enters_of Try.func93 (by kernel_rfl) rfl) (fun x _ W' _ => note_any l _ _ x W' hwd.1 hwd.2))
  have HA := Lib.hid hargs
  clear hargs hr1 hr2 hr3
  go_enter Try.func66, Try.ntmps66
  go_wp2_with fail
  refine (HD.out _ (HT.out.alloc _)).mono ?_
  rintro e w1 ⟨hb, ⟨hne, _⟩ | ⟨_, u, rfl, hu⟩⟩
  · exact absurd HQ.out hne
  obtain ⟨uo, uc, rfl⟩ := hu.open
  obtain ⟨hc, hf⟩ := bcell hb
  have hz0 : w.heap.size < w1.heap.size := by have := hb.size; simp at this; omega
  have hk1 := (hb.block w.heap.size (by simp)).trans (heap_new0 w (.cells (lcells l (.slice ot l.field.tallies.length ct) (.slice on l.notes.length cn)) 41))
  have HB1 := Lib.hid (And.intro (show Below w.heap.size w w1 from (by repeat (first | exact Below.refl _ _ | assumption | refine bgo ?_ (by assumption) | refine bgoAlloc ?_ _ | refine bgoDrew ?_ | refine bgoSet ?_ (by simp; omega) _))) hk1)
  clear hb hu hk1
  go_wp2_with fail
  refine (H1.out _).mono ?_
  rintro e w2 ⟨rfl, hb⟩
  have hk2 := (hb.block _ hz0).trans HB1.out.2
  have HB2 := Lib.hid (And.intro (bgo HB1.out.1 hb) hk2)
  obtain ⟨c2, f2, l2⟩ := cells_of_block hk2
  clear hb hk2 hc hf hz0
  cases r1
  · have hF : faultW l = 1 := by rw [HW.out, HA.out]; rfl
    have HF := Lib.hid hF
    clear hF
    go_wp2_with fail
    go_returns
    exact ⟨HB2.out.1, .inl ⟨by rw [HF.out]; simp, by rw [HF.out]; simp⟩⟩
  go_wp2_with fail
  refine (H2.out _).mono ?_
  rintro e w3 ⟨rfl, hb⟩
  have hk3 := (hb.block _ l2).trans HB2.out.2
  have HB3 := Lib.hid (And.intro (bgo HB2.out.1 hb) hk3)
  obtain ⟨c3, f3, l3⟩ := cells_of_block hk3
  clear hb hk3 c2 f2 l2
  cases r2
  · have hF : faultW l = 1 := by rw [HW.out, HA.out]; rfl
    have HF := Lib.hid hF
    clear hF
    go_wp2_with fail
    go_returns
    exact ⟨HB3.out.1, .inl ⟨by rw [HF.out]; simp, by rw [HF.out]; simp⟩⟩
  go_wp2_with fail
  refine (H3.out _ HB3.out.1).mono ?_
  rintro e w4 ⟨rfl, hb⟩
  have hk4 := (hb.block _ l3).trans HB3.out.2
  have HB4 := Lib.hid (And.intro (bgo HB3.out.1 hb) hk4)
  obtain ⟨c4, f4, l4⟩ := cells_of_block hk4
  clear hb hk4 c3 f3 l3
  cases r3
  · have hF : faultW l = 1 := by rw [HW.out, HA.out]; rfl
    have HF := Lib.hid hF
    clear hF
    go_wp2_with fail
    go_returns
    exact ⟨HB4.out.1, .inl ⟨by rw [HF.out]; simp, by rw [HF.out]; simp⟩⟩
  have hS : SoundL l := soundL_of h5 HQ.out (by rw [HA.out]; rfl)
  have hW : faultW l = if possibleL l (upto l.notes.length) = false then 9 else 0 := by rw [HW.out, HA.out]; rfl
  have HS := Lib.hid hS
  have HW' := Lib.hid hW
  clear hS hW
  go_wp2_with fail
  refine (gwork_any l _ _ HS.out.field (by have := HS.out.rate; omega) (by have := HS.out.rate; omega) w4 (HT.out.below HB4.out.1 (Nat.le_refl _)) (HN.out.below HB4.out.1 (Nat.le_refl _))).mono ?_
  rintro e w5 ⟨wb, mb, v, rfl, hwb, hmb, htab, hlw, hb⟩
  have hk5 := (hb.block _ l4).trans HB4.out.2
  have hok5 : LwOk w5 wb mb l (.slice ot l.field.tallies.length ct) (.slice on l.notes.length cn) v := ⟨hlw, [], new_tab htab⟩
  have hs4 := HB4.out.1.size
  have HB5 := Lib.hid (And.intro (bgo HB4.out.1 hb) (And.intro hk5 hok5))
  obtain ⟨c5, f5, l5⟩ := cells_of_block hk5
  obtain ⟨n, hn⟩ : ∃ n, l.notes.length = n := ⟨_, rfl⟩
  have hmk := make_ints n (by omega)
  rw [hn] at HW' c5
  have HNE := Lib.hid hn
  have hn5 : n ≤ 5 := by omega
  clear hb hk5 hlw htab c4 f4 l4 hok5 hn
  go_upto_region 11 with (fail)
  refine gworld fun W6 hW6 => ?_
  have hB6 : Below w5.heap.size w5 W6 := by rw [hW6]; exact bgoAlloc (Below.refl _ _) _
  have hk6 : W6.heap[w5.heap.size]? = some (.cells (intCells (evTo n 0)).toArray 3 (0, 0)) := by rw [hW6, evTo_zero]; exact heap_new0 _ _
  have H6 := Lib.hid (And.intro hB6 hk6)
  clear hW6 hB6 hk6 hmk c5 f5 l5
  go_wp2_with fail
  go_loopw [50] (fun u wr => ∃ k : Nat, k ≤ n ∧ u = .int .i64 k ∧ wr.heap[w5.heap.size]? = some (.cells (intCells (evTo n k)).toArray 3 (0, 0)) ∧ Below w5.heap.size w5 wr) (fun u _ => n - (intOf u).toNat)
  case atStart => exact ⟨0, Nat.zero_le _, rfl, H6.out.2, H6.out.1⟩
  case round =>
    obtain ⟨k, hk, rfl, hcb, hB⟩ := hrel
    by_cases hlt : k < n
    · have hcell := cell_of_ints hcb (show k < (evTo n k).length by rw [evTo_len]; exact hlt)
      generalize (evTo n k)[k]'(by rw [evTo_len]; exact hlt) = x at hcell
      have hlb := World.block_lt_of_cell? wr _ hcell
      have hfr := frozen_of_block hcb k
      have HX := Lib.hid (And.intro hcb hB)
      clear hcb hB
      go_wp2_with fail
      go_roundw
      case rel =>
        refine ⟨k + 1, by omega, by go_num, ?_, bgoSet HX.out.2 (Nat.le_refl _) _⟩
        rw [← evTo_set hlt, ← set_ints]
        exact set_block HX.out.1 _
      case measure => simp [intOf]; omega
    · have hkn : k = n := by omega
      subst hkn
      rw [evTo_all] at hcb
      have hiv : IntsAt wr (.slice (some ⟨w5.heap.size, 0, none⟩) k k) (upto k) := by
        have hul : (upto k).length = k := by simp [upto]
        have := SlAt.of_block (w := wr) (cs := (intCells (upto k)).toArray) 1 k hcb (by simp [intCells, hul]) (by simp only [maxLen]; omega)
        show SlAt 1 _ _ (upto k).length _
        rw [hul]
        exact this
      have HP := Lib.hid (possible_any HS.out (upto k) (HB5.out.2.2.below hB (Nat.le_refl _)) hiv)
      have HX := Lib.hid hB
      obtain ⟨q, hq⟩ : ∃ q, possibleL l (upto k) = q := ⟨_, rfl⟩
      rw [hq] at HP HW'
      clear hcb hB hiv hq
      go_wp2_with fail
      refine HP.out.mono ?_
      rintro e w7 ⟨rfl, hkn, hE⟩
      have hB7 : Below w.heap.size w w7 := by
        have h1 := bgo HB5.out.1 (HX.out)
        exact below_of_ext h1 hE (by omega)
      have HX7 := Lib.hid (And.intro hkn.ok hB7)
      clear hkn hE hB7
      cases q
      · have HF := Lib.hid HW'.out
        go_wp2_with fail
        go_returns
        exact ⟨HX7.out.2, .inl ⟨by rw [HF.out]; simp, by rw [HF.out]; simp⟩⟩
      · have HF := Lib.hid HW'.out
        go_wp2_with fail
        go_returns
        exact ⟨HX7.out.2, .inr ⟨by rw [HF.out]; rfl, wb, mb, v, by simp, by omega, by omega, HX7.out.1⟩⟩

end Go.Proofs.Ytdjgikcnmokjkaa

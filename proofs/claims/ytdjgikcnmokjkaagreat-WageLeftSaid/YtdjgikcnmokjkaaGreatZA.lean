/-
  The reference of chapter 9: Sum, Done, Dues, isMoney.
  Plain: the reference's error of a ledger is the program's.
  The reference of chapter 9: the error of a ledger.
-/
import Derived.WalkKit
import Derived.WalkLawsBesides
import Derived.WalkSpells
import Derived.Outline
import Derived.Handy
import Derived.KernelRfl
import Derived.Lib.Hide
import Derived.BigRegion
import Derived.Deep.Cut
import Derived.Test.YtdjgikcnmokjkaaGreatRE
import Derived.Test.YtdjgikcnmokjkaaGreatGA
import Derived.Test.YtdjgikcnmokjkaaGreatQF
namespace Go.Proofs.YtdjgikcnmokjkaaGreat
open Go.RowKit Go.RG Go.SL Go.Shelf Cou Go.TB
set_option maxHeartbeats 400000
set_option maxRecDepth 10000

theorem zSum_any (l : List Int) (v : Value) (w : World) (h : IntsAt w v l) (hb : ∀ x ∈ l, -100000 ≤ x ∧ x ≤ 100000) (hl : l.length ≤ 100) : Calls Tryz.prog 26 #[v] w (PV (iv (sumI l)) w) := by
  have hbd : ∀ k, k ≤ l.length → -100000 * (k : Int) ≤ sumI (l.take k) ∧ sumI (l.take k) ≤ 100000 * (k : Int) := by
    intro k
    induction k with
    | zero => intro _; simp [sumI]
    | succ k ih =>
      intro hk
      have := ih (by omega)
      have hx := hb _ (List.getElem_mem (show k < l.length by omega))
      rw [List.take_succ_eq_append_getElem (show k < l.length by omega), sumI_snoc]
      omega
  obtain ⟨o, c, rfl⟩ := h.open
  have HBD := Lib.hid hbd
  have HH := Lib.hid h
  clear hbd h hb
  go_enter Tryz.func26, Tryz.ntmps26
  go_wp2_with fail
  go_loopw [3, 4] (fun n i wr => ∃ k : Nat, k ≤ l.length ∧ i = .int .i64 k ∧ n = .int .i64 (sumI (l.take k)) ∧ Below w.heap.size w wr) (fun _ i _ => l.length - (intOf i).toNat)
  case atStart => exact ⟨0, Nat.zero_le _, rfl, rfl, Below.refl _ _⟩
  case round =>
    obtain ⟨k, hk, rfl, rfl, hB⟩ := hrel
    have HW := Lib.hid hB
    by_cases hlt : k < l.length
    · obtain ⟨g, off, rfl, hg, hc⟩ := IntsAt.cell (HH.out.below hB (Nat.le_refl _)) hlt
      have h0 := HBD.out k hk
      have h1 := HBD.out (k + 1) (by omega)
      have hs : sumI (l.take (k + 1)) = sumI (l.take k) + l[k] := by rw [List.take_succ_eq_append_getElem hlt, sumI_snoc]
      rw [hs] at h1
      have HS := Lib.hid hs
      generalize sumI (l.take k) = s at *
      generalize l[k] = y at *
      have hltI : (k : Int) < l.length := by omega
      clear hs hB
      go_wp2_with fail
      go_roundw
      case rel => exact ⟨k + 1, by omega, by go_num, by rw [HS.out], HW.out⟩
      case measure => simp [intOf]; omega
    · have hkl : k = l.length := by omega
      subst hkl
      rw [List.take_length]
      go_wp2_with fail
      go_returns
      exact ⟨by simp, HW.out⟩

def doneZ (n : Nat) (rows : List Int) : List Int := (List.range n).map fun (i : Nat) => didT rows (i : Int) 0 ((rows.length : Int) - 1)
def duesZ (n : Nat) (rate : Int) (rows : List Int) : List Int := (doneZ n rows).map (· * rate)
theorem doneZ_succ (n : Nat) (rows : List Int) : doneZ (n + 1) rows = doneZ n rows ++ [didT rows (n : Int) 0 ((rows.length : Int) - 1)] := by simp [doneZ, List.range_succ]
theorem doneZ_len (n : Nat) (rows : List Int) : (doneZ n rows).length = n := by simp [doneZ]
theorem doneZ_bd (n : Nat) (rows : List Int) : ∀ x ∈ doneZ n rows, 0 ≤ x ∧ x ≤ rows.length := by
  intro x hx
  simp only [doneZ, List.mem_map, List.mem_range] at hx
  obtain ⟨i, _, rfl⟩ := hx
  unfold didT didL
  refine ⟨by omega, ?_⟩
  have := List.countP_le_length (p := fun j => rows.getD j 0 == (i : Int)) (l := List.range' (0 : Int).toNat (((rows.length : Int) - 1) + 1 - 0).toNat)
  rw [List.length_range'] at this
  omega

theorem zDone_any (l : LedgerD) (tv nv rvv : Value) (rows : List Int) (w : World) (hr : IntsAt w rvv rows) (hl : rows.length ≤ 1000) (h0 : 0 ≤ l.field.weeders) (h3 : l.field.weeders ≤ 3) :
    Calls Tryz.prog 27 #[lv l tv nv, rvv] w (fun e w' => ∃ u, e = .returned u ∧ w'.ownsRow w.heap.size 3 1 u l.field.weeders.toNat (intCells (doneZ l.field.weeders.toNat rows)) ∧ Below w.heap.size w w') := by
  obtain ⟨ro, rc, rfl⟩ := hr.open
  have HR := Lib.hid hr
  obtain ⟨n, hn⟩ : ∃ n : Nat, l.field.weeders = n := ⟨l.field.weeders.toNat, by omega⟩
  have hn3 : n ≤ 3 := by omega
  have HN := Lib.hid hn
  have hnt : l.field.weeders.toNat = n := by omega
  rw [hnt]
  clear hr hn hnt h0 h3
  go_enter Tryz.func27, Tryz.ntmps27
  go_wp2_with fail
  have hk0 := heap_new0 w (.cells (lcells l tv nv) 30)
  obtain ⟨w1, hw1⟩ : ∃ w1, w.alloc (.cells (lcells l tv nv) 30) = w1 := ⟨_, rfl⟩
  have hB1 : Below w.heap.size w w1 := by rw [← hw1]; exact bgoAlloc (Below.refl _ _) _
  rw [hw1] at hk0
  first | rw [hw1] | skip
  have H1 := Lib.hid (And.intro hB1 hk0)
  clear hw1 hB1 hk0
  go_loopw [5, 6] (fun v5 u wr => ∃ k : Nat, k ≤ n ∧ u = .int .i64 k ∧ (∃ oo oc, v5 = .slice oo k oc ∧ wr.ownsRow w1.heap.size 3 1 (.slice oo k oc) k (intCells (doneZ k rows))) ∧ Below w1.heap.size w1 wr) (fun _ u _ => n - (intOf u).toNat)
  case atStart => exact ⟨0, Nat.zero_le _, rfl, ⟨none, 0, rfl, ⟨rfl, .inl ⟨rfl, rfl⟩⟩⟩, Below.refl _ _⟩
  case round =>
    obtain ⟨k, hk, rfl, ⟨oo, oc, rfl, how⟩, hB⟩ := hrel
    have hk0 := (hB.block _ (Array.getElem?_eq_some_iff.1 H1.out.2).1).trans H1.out.2
    have HX := Lib.hid (And.intro how hB)
    by_cases hlt : k < n
    · have hltI : (k : Int) < l.field.weeders := by have := HN.out; omega
      have HDID := Lib.hid (rDid_any rows (.slice ro rows.length rc) hl (k : Int) 0 ((rows.length : Int) - 1) (by omega) (by omega) (by omega) wr (HR.out.below (bgo H1.out.1 hB) (Nat.le_refl _)))
      have hbd := doneZ_bd (k + 1) rows (didT rows (k : Int) 0 ((rows.length : Int) - 1)) (by rw [doneZ_succ]; simp)
      have HSU := Lib.hid (doneZ_succ k rows)
      generalize didT rows (k : Int) 0 ((rows.length : Int) - 1) = y at *
      obtain ⟨c0, f0, l0⟩ := cells_of_block hk0
      have hrl := HR.out.len
      clear hk0 how hB
      go_wp2_with fail
      refine HDID.out.mono ?_
      rintro e W2 ⟨rfl, hb⟩
      have how2 : W2.ownsRow w1.heap.size 3 1 (.slice oo k oc) k (intCells (doneZ k rows)) := owns_keep HX.out.1 fun g hg => hb.block g (owns_ge HX.out.1 g hg).2
      have HX2 := Lib.hid (And.intro how2 (bgo HX.out.2 hb))
      have hsz2 := (bgo HX.out.2 hb).size
      clear hb how2 c0 f0 l0
      go_wp2_with (at_builtin; refine wpList_append_at rfl _ _ tInts rfl w1.heap.size (.slice oo k oc) k (intCells (doneZ k rows)) rfl ?_ (.slice (some ⟨W2.heap.size, 0, none⟩) 1 1) 1 (intCells [y]) rfl ?_ (one_ints _) (by omega) (by omega) (by simp; omega) ?_)
      · exact owns_ext (Ms := []) HX2.out.1 (Ext.of_below ((Below.refl _ _).alloc (Nat.le_refl _) _)) (by simp)
      · exact SlAt.of_block 1 1 (heap_new0 _ _) rfl (by decide)
      · intro v' Wc hown hgr hcase
        obtain ⟨oo3, oc3, rfl⟩ := owns_slice hown
        rw [← intCells_app, ← HSU.out] at hown
        have hwB : Below W2.heap.size W2 (W2.alloc (.cells #[iv y] 3)) := bgoAlloc (Below.refl _ _) _
        have HY := Lib.hid (And.intro hown (Below.grown (bgo HX2.out.2 hwB) hgr (by have := hwB.size; omega) (fun g e => (owns_ge HX2.out.1 g e).1)))
        clear hown hgr hcase hwB
        go_wp2_with fail
        go_roundw
        case rel => exact ⟨k + 1, by omega, by go_num, ⟨oo3, oc3, rfl, HY.out.1⟩, HY.out.2⟩
        case measure => simp [intOf]; omega
    · have hkn : k = n := by omega
      have hnl : ¬ (k : Int) < l.field.weeders := by have := HN.out; omega
      obtain ⟨c0, f0, l0⟩ := cells_of_block hk0
      clear hk0 how hB
      go_wp2_with fail
      go_returns
      subst hkn
      exact ⟨_, by simp, owns_base HX.out.1 H1.out.1.size, bgo H1.out.1 HX.out.2⟩

theorem duesZ_len (n : Nat) (rate : Int) (rows : List Int) : (duesZ n rate rows).length = n := by simp [duesZ, doneZ_len]
def mulTo (rate : Int) (l : List Int) (k : Nat) : List Int := (l.take k).map (· * rate) ++ l.drop k
theorem mulTo_len (rate : Int) (l : List Int) (k : Nat) : (mulTo rate l k).length = l.length := by simp [mulTo]; omega
theorem mulTo_zero (rate : Int) (l : List Int) : mulTo rate l 0 = l := by simp [mulTo]
theorem mulTo_all (rate : Int) (l : List Int) : mulTo rate l l.length = l.map (· * rate) := by simp [mulTo]
theorem mulTo_at {rate : Int} {l : List Int} {k : Nat} (hk : k < l.length) : (mulTo rate l k)[k]? = some l[k] := by
  unfold mulTo
  rw [List.getElem?_append_right (by simp; omega), List.getElem?_drop]
  simp [Nat.min_eq_left (Nat.le_of_lt hk), hk]
theorem mulTo_succ {rate : Int} {l : List Int} {k : Nat} (hk : k < l.length) : (mulTo rate l k).set k (l[k] * rate) = mulTo rate l (k + 1) := by
  unfold mulTo
  have hl : ((l.take k).map (· * rate)).length = k := by simp; omega
  rw [List.set_append_right _ _ (by omega), hl, Nat.sub_self, List.drop_eq_getElem_cons hk, List.set_cons_zero, List.take_succ_eq_append_getElem hk, List.map_append, List.append_assoc]
  rfl

theorem zDues_any (l : LedgerD) (tv nv rvv : Value) (rows : List Int) (w : World) (hr : IntsAt w rvv rows) (hl : rows.length ≤ 1000) (h0 : 0 ≤ l.field.weeders) (h3 : l.field.weeders ≤ 3) (r0 : 0 ≤ l.rate) (r1 : l.rate ≤ 50) :
    Calls Tryz.prog 59 #[lv l tv nv, rvv] w (fun e w' => ∃ u, e = .returned u ∧ w'.ownsRow w.heap.size 3 1 u l.field.weeders.toNat (intCells (duesZ l.field.weeders.toNat l.rate rows)) ∧ Below w.heap.size w w') := by
  have HD := Lib.hid (zDone_any l tv nv rvv rows (w.alloc (.cells (lcells l tv nv) 30)) (hr.alloc _) hl h0 h3)
  obtain ⟨n, hn⟩ : ∃ n : Nat, l.field.weeders.toNat = n := ⟨_, rfl⟩
  have hn3 : n ≤ 3 := by omega
  rw [hn] at HD ⊢
  have hbd := doneZ_bd n rows
  have hdl := doneZ_len n rows
  have hdz : duesZ n l.rate rows = (doneZ n rows).map (· * l.rate) := rfl
  rw [hdz]
  generalize doneZ n rows = ds at *
  have HBD := Lib.hid (And.intro hbd (And.intro hdl hl))
  clear hr hn hbd hdl hdz hl h0 h3
  go_enter Tryz.func59, Tryz.ntmps59
  go_wp2_with fail
  refine HD.out.mono ?_
  rintro e W1 ⟨u, rfl, hu, hb⟩
  obtain ⟨uo, uc, rfl⟩ := owns_slice hu
  have hk0 := (hb.block w.heap.size (by simp)).trans (heap_new0 w (.cells (lcells l tv nv) 30))
  have hwl : w.heap.size < W1.heap.size := (Array.getElem?_eq_some_iff.1 hk0).1
  have H1 := Lib.hid (And.intro (show Below w.heap.size w W1 from (by repeat (first | exact Below.refl _ _ | assumption | refine bgo ?_ (by assumption) | refine bgoAlloc ?_ _ | refine bgoDrew ?_ | refine bgoSet ?_ (by simp; omega) _))) (And.intro hk0 (owns_base hu (show w.heap.size + 1 ≤ _ by simp))))
  clear hu hb hk0
  go_wp2_with fail
  go_loopw [6] (fun u wr => ∃ k : Nat, k ≤ n ∧ u = .int .i64 k ∧ wr.ownsRow (w.heap.size + 1) 3 1 (.slice uo n uc) n (intCells (mulTo l.rate ds k)) ∧ wr.heap[w.heap.size]? = some (.cells (lcells l tv nv) 30 (0, 0)) ∧ Below w.heap.size w wr) (fun u _ => n - (intOf u).toNat)
  case atStart => exact ⟨0, Nat.zero_le _, rfl, by rw [mulTo_zero]; exact H1.out.2.2, H1.out.2.1, H1.out.1⟩
  case round =>
    obtain ⟨k, hk, rfl, how, hk0, hB⟩ := hrel
    by_cases hlt : k < n
    · have hkd : k < ds.length := by have := HBD.out.2.1; omega
      obtain ⟨_, ⟨h2, h3⟩ | ⟨g, cap, cur, h2, hbg, hgb, hnc, hcm, hcs, htk⟩⟩ := id how
      · omega
      cases h2
      have hgn : ¬ g = w.heap.size := by omega
      have hcell : wr.cell? ⟨g, k, none⟩ = some (iv ds[k]) := by
        have h4 : (intCells (mulTo l.rate ds k))[k]? = some (iv ds[k]) := by unfold intCells; rw [List.getElem?_map, mulTo_at hkd]; rfl
        rw [← htk, List.getElem?_take] at h4
        simp only [World.cell?, hgb]
        split at h4
        · simpa using h4
        · cases h4
      have hfz := frozen_of_block hgb k
      have hgl := (Array.getElem?_eq_some_iff.1 hgb).1
      have hyb := HBD.out.1 _ (List.getElem_mem hkd)
      have hms := mulTo_succ (rate := l.rate) hkd
      have hyr : ds[k] ≤ 1000 := by have := HBD.out.2.2; omega
      have hm : 0 ≤ ds[k] * l.rate ∧ ds[k] * l.rate ≤ 1000 * 50 := ⟨Int.mul_nonneg hyb.1 r0, Int.mul_le_mul hyr r1 r0 (by omega)⟩
      have HX := Lib.hid (And.intro how (And.intro hk0 (And.intro hB hms)))
      obtain ⟨c0, f0, l0⟩ := cells_of_block hk0
      have hltI : (k : Int) < n := by omega
      generalize ds[k] = y at *
      clear how hk0 hB hms hgb hcs htk
      go_wp2_with fail
      go_region
      all_goals go_wp2_with fail
      all_goals go_roundw
      case rel =>
        obtain ⟨p1, _, _, _, _⟩ := owns_setI (y := y * l.rate) HX.out.1 hlt
        rw [HX.out.2.2.2] at p1
        exact ⟨k + 1, by omega, by go_num, p1, (Below.heap_setCell _ _ _ _ (fun e => hgn e.symm)).trans HX.out.2.1, bgoDrew (bgoSet HX.out.2.2.1 (by simp; omega) _)⟩
      case measure => simp [intOf]; omega
    · have hkn : k = n := by omega
      rw [hkn] at how
      have HX := Lib.hid (And.intro how hB)
      clear how hB hk0
      go_wp2_with fail
      go_returns
      exact ⟨.slice uo n uc, by simp, by have := HX.out.1; rw [← HBD.out.2.1, mulTo_all, HBD.out.2.1] at this; exact owns_base this (by omega), HX.out.2⟩

theorem isMoney_any (r : Rng) (w : World) : Calls Tryz.prog 126 #[rv r] w (PV (.bool (amountsB r)) w) := by
  have HA := Lib.hid (show amountsB r = (decide (0 ≤ r.1) && (decide (r.1 ≤ r.2) && decide (r.2 ≤ 2000))) from by
    unfold amountsB inB
    rw [Bool.eq_iff_iff]
    simp only [Bool.and_eq_true, decide_eq_true_eq]
    omega)
  rw [HA.out]
  obtain ⟨a, b⟩ := r
  simp only
  by_cases h0 : 0 ≤ a
  · by_cases h1 : a ≤ b
    · by_cases h2 : b ≤ 2000
      · skip
        skip
        go_enter Tryz.func126, Tryz.ntmps126
        go_wp2_with fail
        go_returns
        exact ⟨by first | (simp [*]; done) | (simp [*]; omega), (by repeat (first | exact Below.refl _ _ | assumption | refine bgo ?_ (by assumption) | refine bgoAlloc ?_ _ | refine bgoDrew ?_ | refine bgoSet ?_ (by simp; omega) _))⟩
      · skip
        skip
        go_enter Tryz.func126, Tryz.ntmps126
        go_wp2_with fail
        go_returns
        exact ⟨by first | (simp [*]; done) | (simp [*]; omega), (by repeat (first | exact Below.refl _ _ | assumption | refine bgo ?_ (by assumption) | refine bgoAlloc ?_ _ | refine bgoDrew ?_ | refine bgoSet ?_ (by simp; omega) _))⟩
    · skip
      skip
      go_enter Tryz.func126, Tryz.ntmps126
      go_wp2_with fail
      go_returns
      exact ⟨by first | (simp [*]; done) | (simp [*]; omega), (by repeat (first | exact Below.refl _ _ | assumption | refine bgo ?_ (by assumption) | refine bgoAlloc ?_ _ | refine bgoDrew ?_ | refine bgoSet ?_ (by simp; omega) _))⟩
  · skip
    skip
    go_enter Tryz.func126, Tryz.ntmps126
    go_wp2_with fail
    go_returns
    exact ⟨by first | (simp [*]; done) | (simp [*]; omega), (by repeat (first | exact Below.refl _ _ | assumption | refine bgo ?_ (by assumption) | refine bgoAlloc ?_ _ | refine bgoDrew ?_ | refine bgoSet ?_ (by simp; omega) _))⟩
end Go.Proofs.YtdjgikcnmokjkaaGreat

namespace Go.Proofs.YtdjgikcnmokjkaaGreat
open Go.RowKit Go.RG Go.SL Go.Shelf Cou Go.TB
set_option maxHeartbeats 400000

theorem duesZ_eq {l : LedgerD} (hS : SoundF l.field) {t : List Int} (ht : t.length = l.field.rows.toNat) : duesZ l.field.weeders.toNat l.rate t = dueV l t := by
  have hr := hS.rows0
  have hw := hS.weed1
  unfold duesZ dueV
  refine List.ext_getElem (by simp [doneZ_len, duesV_len]; omega) fun i h1 h2 => ?_
  have hi : i < l.field.weeders.toNat := by simpa [doneZ_len] using h1
  have hi3 : i < 3 := by omega
  have := dues_done hS l.rate ht hi3
  rw [List.getElem_take, List.getElem_map]
  have h3 : (duesV l.rate t)[i]'(by rw [duesV_len]; exact hi3) = (duesV l.rate t).getD i 0 := by rw [List.getD_eq_getElem?_getD, List.getElem?_eq_getElem (by rw [duesV_len]; exact hi3)]; rfl
  rw [h3, this]
  unfold doneZ doneF
  rw [List.getElem_map, List.getElem_range, Int.mul_comm, show (t.length : Int) - 1 = l.field.rows - 1 from by omega]

theorem left_all (l : LedgerD) : leftL l (upto l.notes.length) = [] := by
  unfold leftL leftTo
  rw [List.filter_eq_nil_iff.2]
  · rfl
  · intro i hi
    have : (upto l.notes.length).contains (i : Int) = true := by
      rw [List.contains_iff_mem]
      exact List.mem_map.2 ⟨i, hi, rfl⟩
    rw [this]
    simp

theorem canPay_all {l : LedgerD} (hS : SoundL l) {d : List Int} (hd : d ∈ duesT l) : canPay l (upto l.notes.length) d = decide (l.box.1 ≤ sumI (d.take l.field.weeders.toNat)) := by
  have hF := soundF_of hS.field
  have hw := hF.weed1
  have hb := hS.box
  have hd3 := duesT_three l d hd
  have hal : alone l (upto l.notes.length) d = (List.range l.field.weeders.toNat).map fun i => ((0 : Int), d.getD i 0) := by
    unfold alone
    refine List.map_congr_left fun i _ => ?_
    rw [← kn_known, left_all]
    rfl
  have h1 : (alone l (upto l.notes.length) d).map (·.1) = List.replicate l.field.weeders.toNat 0 := by
    rw [hal, List.map_map]
    refine List.ext_getElem (by simp) fun i _ _ => by simp
  have h2 : (alone l (upto l.notes.length) d).map (·.2) = d.take l.field.weeders.toNat := by
    rw [hal, List.map_map]
    refine List.ext_getElem (by simp; omega) fun i a b => ?_
    have hi : i < d.length := by simp at b; omega
    simp [List.getD, hi]
  have h3 : (alone l (upto l.notes.length) d).all (fun r => decide (r.1 ≤ r.2)) = true := by
    rw [hal, List.all_eq_true]
    intro r hr
    obtain ⟨i, hi, rfl⟩ := List.mem_map.1 hr
    have := duesT_bd hS hd i (by have := List.mem_range.1 hi; omega)
    simp only [decide_eq_true_eq]
    omega
  have h4 : sumI (List.replicate l.field.weeders.toNat 0) = 0 := by
    generalize l.field.weeders.toNat = n
    induction n with
    | zero => rfl
    | succ n ih => rw [List.replicate_succ, sumI_cons, ih]; rfl
  unfold canPay lowL highL
  rw [h3, h1, h2, h4, Bool.true_and, show decide ((0 : Int) ≤ l.box.2) = true from by simp; omega, Bool.true_and]

def coverB (l : LedgerD) (t : List Int) : Bool := decide (l.box.1 ≤ sumI (duesZ l.field.weeders.toNat l.rate t))
theorem possible_cover {l : LedgerD} (hS : SoundL l) : possibleL l (upto l.notes.length) = (rtruths l.field).any (coverB l) := by
  have hF := soundF_of hS.field
  unfold possibleL
  rw [Bool.eq_iff_iff, List.any_eq_true, List.any_eq_true]
  constructor
  · rintro ⟨d, hd, hc⟩
    obtain ⟨t, ht, rfl⟩ := mem_duesT.1 hd
    refine ⟨t, (mem_rtruths hF).2 ht, ?_⟩
    rw [canPay_all hS hd] at hc
    unfold coverB
    rw [duesZ_eq hF (truthsF_len ht)]
    exact hc
  · rintro ⟨t, ht, hc⟩
    have ht' := (mem_rtruths hF).1 ht
    have hd := mem_duesT.2 ⟨t, ht', rfl⟩
    refine ⟨_, hd, ?_⟩
    rw [canPay_all hS hd]
    unfold coverB at hc
    rw [duesZ_eq hF (truthsF_len ht')] at hc
    exact hc
end Go.Proofs.YtdjgikcnmokjkaaGreat

namespace Go.Proofs.YtdjgikcnmokjkaaGreat
open Go.RowKit Go.RG Go.SL Go.Shelf Cou Go.TB
set_option maxHeartbeats 400000
set_option maxRecDepth 10000

theorem ListsAt.cell {w : World} {o : Option Addr} {n c : Nat} {es : List LE} (h : SlAt 1 w (.slice o n c) n (leCells es)) {k : Nat} (hk : k < es.length) : ∃ b off, o = some ⟨b, off, none⟩ ∧ b < w.heap.size ∧ w.cell? ⟨b, off + k, none⟩ = some es[k].1 := by
  obtain ⟨hl, o', c', hv, h1, h2, h3, h4⟩ := h
  cases hv
  have hlen : (leCells es).length = es.length := by simp [leCells]
  cases o with
  | none => have := h3 rfl; omega
  | some a =>
    obtain ⟨b, off, sp⟩ := a
    obtain ⟨hs, hc⟩ := h4 _ rfl
    simp only at hs hc
    subst hs
    have h0 := hc k es[k].1 (by simp [leCells, hk])
    exact ⟨b, off, rfl, World.block_lt_of_cell? w _ h0, h0⟩

def noteTo (l : LedgerD) (k : Nat) : Bool := (l.notes.take k).all (noteB l)
theorem noteTo_succ {l : LedgerD} {k : Nat} (hk : k < l.notes.length) : noteTo l (k + 1) = (noteTo l k && noteB l l.notes[k]) := by
  unfold noteTo; rw [List.take_succ_eq_append_getElem hk, List.all_append]; simp
theorem noteTo_bad {l : LedgerD} {k : Nat} (hk : k < l.notes.length) (h : noteB l l.notes[k] = false) : l.notes.all (noteB l) = false := by
  rw [List.all_eq_false]
  exact ⟨_, List.getElem_mem hk, by rw [h]; simp⟩

set_option maxHeartbeats 4000000 in
theorem zFault_any (l : LedgerD) (tv nv : Value) (w : World) (ht : TalliesAt w tv l.field.tallies) (hn : TriplesAt w nv l.notes) :
    Calls Tryz.prog 85 #[lv l tv nv] w (PV (iv (faultW l)) w) := by
  obtain ⟨no, nc, rfl⟩ := hn.open
  have hnl := hn.len
  have HA := Lib.hid (And.intro ht hn)
  clear ht hn
  obtain ⟨nn, hnn⟩ : ∃ nn, l.notes.length = nn := ⟨_, rfl⟩
  have HNN := Lib.hid hnn
  rw [hnn] at hnl ⊢
  clear hnn
  go_enter Tryz.func85, Tryz.ntmps85
  by_cases h5 : 5 < nn
  · have h5I : (nn : Int) > 5 := by omega
    have HV := Lib.hid (show faultW l = 3 from by unfold faultW; rw [HNN.out, if_pos h5])
    go_wp2_with fail
    go_returns
    exact ⟨by rw [HV.out]; simp, (by repeat (first | exact Below.refl _ _ | assumption | refine bgo ?_ (by assumption) | refine bgoAlloc ?_ _ | refine bgoDrew ?_ | refine bgoSet ?_ (by simp; omega) _))⟩
  have h5I : ¬ (nn : Int) > 5 := by omega
  go_wp2_with fail
  clear h5I
  refine (rFault_any l.field tv _ (HA.out.1.alloc _)).mono ?_
  rintro e W1 ⟨rfl, hb⟩
  have hk0 := (hb.block w.heap.size (by simp)).trans (heap_new0 w (.cells (lcells l tv (.slice no nn nc)) 30))
  have HB1 := Lib.hid (And.intro (show Below w.heap.size w W1 from (by repeat (first | exact Below.refl _ _ | assumption | refine bgo ?_ (by assumption) | refine bgoAlloc ?_ _ | refine bgoDrew ?_ | refine bgoSet ?_ (by simp; omega) _))) hk0)
  clear hb
  obtain ⟨zf, hzf⟩ : ∃ zf, faultF l.field = zf := ⟨_, rfl⟩
  rw [hzf]
  by_cases hz0 : zf = 0
  case neg =>
    have HV := Lib.hid (show faultW l = zf from by
      have ha : askFErr l.field true = zf := by unfold askFErr; rw [hzf, if_pos hz0]
      unfold faultW
      rw [HNN.out, if_neg h5, ha, if_pos hz0])
    have hzb : (zf != 0) = true := by simpa using hz0
    clear hzf hk0
    go_wp2_with fail
    go_returns
    exact ⟨by rw [HV.out]; simp, HB1.out.1⟩
  subst hz0
  have hF := soundF_of hzf
  have HF := Lib.hid hF
  have hw0 := hF.weed0
  have hw3 := hF.weed1
  have hr7 := hF.rows1
  obtain ⟨c0, f0, l0⟩ := cells_of_block hk0
  clear hk0
  go_wp2_with fail
  refine (rTruths_any l.field hF tv W1 (HA.out.1.below HB1.out.1 (Nat.le_refl _))).mono ?_
  rintro e W2 ⟨ev, es, rfl, hes, hmap, hb⟩
  obtain ⟨eo, ec, rfl⟩ := hes.1.open
  have hk0 := (hb.block _ l0).trans HB1.out.2
  have HB2 := Lib.hid (And.intro (bgo HB1.out.1 hb) (And.intro hk0 (And.intro hes hmap)))
  have hel := hes.1.len
  clear hb hes hmap c0 f0
  obtain ⟨c0, f0, l0⟩ := cells_of_block hk0
  clear hk0
  by_cases hn0 : es.length = 0
  · have hes0 : truthsF l.field [] = [] := by
      rw [List.eq_nil_iff_forall_not_mem]
      intro t ht
      rw [← mem_rtruths HF.out, ← HB2.out.2.2.2, List.eq_nil_of_length_eq_zero hn0] at ht
      cases ht
    have HV := Lib.hid (show faultW l = 11 from by
      have ha : askFErr l.field true = 11 := by unfold askFErr; rw [hzf, if_neg (by simp), if_neg (by simp), hes0]; rfl
      unfold faultW
      rw [HNN.out, if_neg h5, ha, if_pos (by simp)])
    have hnb : ((es.length : Int) == 0) = true := by simp [hn0]
    clear hn0 hes0 hzf
    go_wp2_with fail
    go_returns
    exact ⟨by rw [HV.out]; simp, HB2.out.1⟩
  have hne : truthsF l.field [] ≠ [] := fun e => by
    obtain ⟨x, hx⟩ := List.exists_mem_of_ne_nil es (fun h => hn0 (by rw [h]; rfl))
    have : x.2 ∈ rtruths l.field := by rw [← HB2.out.2.2.2]; exact List.mem_map.2 ⟨x, hx, rfl⟩
    rw [mem_rtruths HF.out, e] at this
    cases this
  have hask : askFErr l.field true = 0 := by
    unfold askFErr
    rw [if_neg (by rw [hzf]; simp), if_neg (by simp), if_neg (by simpa using hne)]
  have HV := Lib.hid (show faultW l = if argsB l = false then 1 else if possibleL l (upto nn) = false then 9 else 0 from by
    unfold faultW
    rw [HNN.out, if_neg h5, hask, if_neg (by simp)])
  have HSL := Lib.hid (fun (h : argsB l = true) => soundL_of (l := l) (by rw [HNN.out]; exact h5) hask h)
  have hnb : ((es.length : Int) == 0) = false := by rw [beq_eq_false_iff_ne]; omega
  clear hzf hne hask
  go_wp2_with fail
  refine (rIn_any l.rate 1 50 _).mono ?_
  rintro e W3 ⟨rfl, hb⟩
  have hk0 := (hb.block _ l0).trans HB2.out.2.1
  have HB3 := Lib.hid (And.intro (bgo HB2.out.1 hb) (And.intro hk0 hb))
  clear hb c0 f0
  obtain ⟨c0, f0, l0⟩ := cells_of_block hk0
  clear hk0
  obtain ⟨ri, hri⟩ : ∃ ri, inB l.rate 1 50 = ri := ⟨_, rfl⟩
  have HRI := Lib.hid hri
  rw [hri]
  clear hri
  cases ri
  · have HV1 := Lib.hid (show faultW l = 1 from by rw [HV.out, if_pos (by unfold argsB; rw [HRI.out]; rfl)])
    go_wp2_with fail
    go_returns
    exact ⟨by rw [HV1.out]; simp, HB3.out.1⟩
  go_wp2_with fail
  refine (isMoney_any l.box _).mono ?_
  rintro e W4 ⟨rfl, hb⟩
  have hk0 := (hb.block _ l0).trans HB3.out.2.1
  have HB4 := Lib.hid (And.intro (bgo HB3.out.1 hb) (And.intro hk0 (bgo HB3.out.2.2 hb)))
  clear hb c0 f0
  obtain ⟨c0, f0, l0⟩ := cells_of_block hk0
  clear hk0
  obtain ⟨bm, hbm⟩ : ∃ bm, amountsB l.box = bm := ⟨_, rfl⟩
  have HBM := Lib.hid hbm
  rw [hbm]
  clear hbm
  cases bm
  · have HV1 := Lib.hid (show faultW l = 1 from by rw [HV.out, if_pos (by unfold argsB; rw [HBM.out]; simp)])
    go_wp2_with fail
    go_returns
    exact ⟨by rw [HV1.out]; simp, HB4.out.1⟩
  have HAR := Lib.hid (show argsB l = l.notes.all (noteB l) from by unfold argsB; rw [HRI.out, HBM.out]; rfl)
  go_wp2_with fail
  clear c0 f0 hnb
  go_loopw [5] (fun u wr => ∃ k : Nat, k ≤ nn ∧ u = .int .i64 k ∧ noteTo l k = true ∧ Below W4.heap.size W4 wr) (fun u _ => nn - (intOf u).toNat)
  case atStart => exact ⟨0, Nat.zero_le _, rfl, rfl, Below.refl _ _⟩
  case round =>
    obtain ⟨k, hk, rfl, hok, hB⟩ := hrel
    have hk0 := (hB.block _ l0).trans HB4.out.2.1
    obtain ⟨c0, f0, l0'⟩ := cells_of_block hk0
    by_cases hlt : k < nn
    · have hltn : k < l.notes.length := by rw [HNN.out]; exact hlt
      have hat := (HA.out.2.below HB4.out.1 (Nat.le_refl _)).below hB (Nat.le_refl _)
      obtain ⟨g, off, hv, hg, d0, d1, d2⟩ := TriplesAt.cell (show SlAt 3 wr (.slice no l.notes.length nc) l.notes.length (tripleCells l.notes) from hat) hltn
      have hsu := noteTo_succ hltn
      rw [hok, Bool.true_and] at hsu
      have hbad := fun h => noteTo_bad hltn h
      generalize l.notes[k] = x at *
      obtain ⟨x0, x1, x2⟩ := x
      simp only at d0 d1 d2
      cases hv
      have HX := Lib.hid (And.intro hsu (And.intro hbad hB))
      have hltI : (k : Int) < nn := by omega
      clear hsu hbad hB hat hk0 hok hltn
      obtain ⟨ib, hib⟩ : ∃ ib, inB x0 0 (l.field.weeders - 1) = ib := ⟨_, rfl⟩
      have HIB := Lib.hid hib
      clear hib
      cases ib
      · have HV1 := Lib.hid (show faultW l = 1 from by rw [HV.out, if_pos (by rw [HAR.out]; exact HX.out.2.1 (by unfold noteB; rw [HIB.out]; rfl))])
        go_wp2_with fail
        refine wp_region_rg 19 [] none [(10, Spec.val (.bool false))] (by as_aux_lemma => kernel_rfl) (by as_aux_lemma => kernel_rfl) ?_
        simp only [List.take_succ_cons, List.take_zero, List.drop_succ_cons, List.drop_zero]
        repeat (first | (refine tree_det (by rfl) _ (by rfl) (fun W hW => by go_simp; (try simp (disch := omega) only [IntWalk.i64_in]); try rfl) ?_; simp only [Act.put, List.setIfInBounds_toArray, List.set_cons_succ, List.set_cons_zero]) | (refine tree_skip (by rfl) (by rfl) ?_; simp only [Act.put, List.setIfInBounds_toArray, List.set_cons_succ, List.set_cons_zero]))
        refine tree_val _ (by rfl) (by rfl) 25 #[iv x0, iv 0, iv (l.field.weeders - 1)] (fun W hW => by go_simp; try rfl) (fun W hE hF => by have := rIn_any x0 0 (l.field.weeders - 1) W; rw [HIB.out] at this; exact this) ?_
        simp only [Act.put, List.setIfInBounds_toArray, List.set_cons_succ, List.set_cons_zero]
        repeat (first | (refine tree_det (by rfl) _ (by rfl) (fun W hW => by go_simp; (try simp (disch := omega) only [IntWalk.i64_in]); try rfl) ?_; simp only [Act.put, List.setIfInBounds_toArray, List.set_cons_succ, List.set_cons_zero]) | (refine tree_skip (by rfl) (by rfl) ?_; simp only [Act.put, List.setIfInBounds_toArray, List.set_cons_succ, List.set_cons_zero]))
        intro X hE hF
        have HE := Lib.hid (Ext.below (show Ext [] wr X from hE))
        clear hE hF c0 f0 l0' d0 d1 d2
        go_wp2_with fail
        go_returns
        exact ⟨by rw [HV1.out]; simp, bgo (bgo HB4.out.1 HX.out.2.2) HE.out⟩
      · go_wp2_with fail
        refine wp_region_rg 19 [] none [(10, Spec.val (.bool true))] (by as_aux_lemma => kernel_rfl) (by as_aux_lemma => kernel_rfl) ?_
        simp only [List.take_succ_cons, List.take_zero, List.drop_succ_cons, List.drop_zero]
        repeat (first | (refine tree_det (by rfl) _ (by rfl) (fun W hW => by go_simp; (try simp (disch := omega) only [IntWalk.i64_in]); try rfl) ?_; simp only [Act.put, List.setIfInBounds_toArray, List.set_cons_succ, List.set_cons_zero]) | (refine tree_skip (by rfl) (by rfl) ?_; simp only [Act.put, List.setIfInBounds_toArray, List.set_cons_succ, List.set_cons_zero]))
        refine tree_val _ (by rfl) (by rfl) 25 #[iv x0, iv 0, iv (l.field.weeders - 1)] (fun W hW => by go_simp; try rfl) (fun W hE hF => by have := rIn_any x0 0 (l.field.weeders - 1) W; rw [HIB.out] at this; exact this) ?_
        simp only [Act.put, List.setIfInBounds_toArray, List.set_cons_succ, List.set_cons_zero]
        repeat (first | (refine tree_det (by rfl) _ (by rfl) (fun W hW => by go_simp; (try simp (disch := omega) only [IntWalk.i64_in]); try rfl) ?_; simp only [Act.put, List.setIfInBounds_toArray, List.set_cons_succ, List.set_cons_zero]) | (refine tree_skip (by rfl) (by rfl) ?_; simp only [Act.put, List.setIfInBounds_toArray, List.set_cons_succ, List.set_cons_zero]))
        intro X hE hF
        have HE := Lib.hid (Ext.below (show Ext [] wr X from hE))
        clear hE hF c0 f0 l0' d0 d1 d2
        go_wp2_with fail
        refine (isMoney_any (x1, x2) X).mono ?_
        rintro e X2 ⟨rfl, hb⟩
        have HE2 := Lib.hid (bgo HX.out.2.2 (bgo HE.out hb))
        clear hb
        obtain ⟨am, ham⟩ : ∃ am, amountsB (x1, x2) = am := ⟨_, rfl⟩
        have HAM := Lib.hid ham
        rw [ham]
        clear ham
        cases am
        · have HV1 := Lib.hid (show faultW l = 1 from by rw [HV.out, if_pos (by rw [HAR.out]; exact HX.out.2.1 (by unfold noteB; rw [HIB.out, HAM.out]; rfl))])
          go_wp2_with fail
          go_returns
          exact ⟨by rw [HV1.out]; simp, bgo HB4.out.1 HE2.out⟩
        · go_wp2_with fail
          go_roundw
          case rel => exact ⟨k + 1, by omega, by go_num, by rw [HX.out.1]; unfold noteB; rw [HIB.out, HAM.out]; rfl, HE2.out⟩
          case measure => simp [intOf]; omega
    · have hkn : k = nn := by omega
      rw [hkn] at hok
      have hargs : argsB l = true := by
        rw [HAR.out]
        unfold noteTo at hok
        rw [← HNN.out, List.take_length] at hok
        exact hok
      have hSL := HSL.out hargs
      have HS := Lib.hid hSL
      have HVV := Lib.hid (show faultW l = if (rtruths l.field).any (coverB l) = false then 9 else 0 from by
        rw [HV.out, if_neg (by rw [hargs]; simp), ← HNN.out, possible_cover hSL])
      have HBR := Lib.hid (And.intro (bgo HB4.out.1 hB) (And.intro hk0 (bgo HB4.out.2.2 hB)))
      have hnl : ¬ (k : Int) < nn := by omega
      clear hok hargs hSL hB hkn hk0 hk hlt HV HAR HSL
      go_wp2_with fail
      clear hnl c0 f0 l0'
      go_loopw [6] (fun u wq => ∃ j : Nat, j ≤ es.length ∧ u = .int .i64 j ∧ ((rtruths l.field).take j).any (coverB l) = false ∧ Below wr.heap.size wr wq) (fun u _ => es.length - (intOf u).toNat)
      case atStart => exact ⟨0, Nat.zero_le _, rfl, rfl, Below.refl _ _⟩
      case round =>
        obtain ⟨j, hj, rfl, hno, hB⟩ := hrel
        have hk0 := (hB.block _ (Array.getElem?_eq_some_iff.1 HBR.out.2.1).1).trans HBR.out.2.1
        obtain ⟨c0, f0, l0'⟩ := cells_of_block hk0
        have hBr := bgo HBR.out.1 hB
        have hB2r := bgo HBR.out.2.2 hB
        by_cases hlt : j < es.length
        · have hjr : j < (rtruths l.field).length := by rw [← HB2.out.2.2.2]; simpa using hlt
          obtain ⟨b0, off0, hv0, hg0, e0⟩ := ListsAt.cell (SlAt.below HB2.out.2.2.1.1 hB2r (Nat.le_refl _)) hlt
          have hia := (HB2.out.2.2.1.2 _ (List.getElem_mem hlt)).below hB2r (Nat.le_refl _)
          have he2 : es[j].2 = (rtruths l.field)[j] := by
            have := HB2.out.2.2.2
            rw [← List.getElem_map (f := fun x : LE => x.2) (h := by simpa using hlt)]
            simp only [this]
          have htm : es[j].2 ∈ rtruths l.field := by rw [he2]; exact List.getElem_mem _
          have htk : (rtruths l.field).take (j + 1) = (rtruths l.field).take j ++ [(rtruths l.field)[j]] := List.take_succ_eq_append_getElem hjr
          have hsu : ((rtruths l.field).take (j + 1)).any (coverB l) = coverB l es[j].2 := by rw [htk, List.any_append, hno, he2]; simp
          generalize es[j] = ee at *
          obtain ⟨vt, t⟩ := ee
          simp only at hia htm hsu he2 e0
          have htt := (mem_rtruths HF.out).1 htm
          have htl := truthsF_len htt
          have hyes := fun (hc : coverB l t = true) => show (rtruths l.field).any (coverB l) = true from List.any_eq_true.2 ⟨t, htm, hc⟩
          cases hv0
          have HX := Lib.hid (And.intro hsu (And.intro hyes (And.intro hB hBr)))
          have HIA := Lib.hid (show IntsAt wr vt t from hia)
          have HTT := Lib.hid htt
          have hltI : (j : Int) < es.length := by omega
          obtain ⟨o3, c3, rfl⟩ := hia.open
          clear hsu hyes hB hBr hB2r hia htm htt hk0 hno htk hjr he2
          have hr7' : t.length ≤ 7 := by omega
          obtain ⟨n, hnw⟩ : ∃ n, l.field.weeders.toNat = n := ⟨_, rfl⟩
          have HDU := Lib.hid (fun (W : World) (hb : Below wr.heap.size wr W) => zDues_any l tv (.slice no nn nc) (.slice o3 t.length c3) t W (HIA.out.below hb (Nat.le_refl _)) (by omega) (by omega) hw3 (by have := HS.out.rate; omega) (by have := HS.out.rate; omega))
          obtain ⟨D, hD⟩ : ∃ D, duesZ l.field.weeders.toNat l.rate t = D := ⟨_, rfl⟩
          have hDl : D.length = n := by rw [← hD, duesZ_len, hnw]
          have hDb : ∀ x ∈ D, 0 ≤ x ∧ x ≤ 350 := by
            rw [← hD, duesZ_eq HF.out (truthsF_len HTT.out)]
            intro x hx
            have hx' := List.mem_of_mem_take hx
            obtain ⟨i, hi, hie⟩ := List.getElem_of_mem hx'
            have hi3 : i < 3 := by rw [duesV_len] at hi; exact hi
            have := duesV_bd (rate := l.rate) (by have := HS.out.rate; omega) (by have := HS.out.rate; omega) t hr7' i hi3
            rw [show (duesV l.rate t).getD i 0 = x from by rw [← hie]; rw [List.getD_eq_getElem?_getD, List.getElem?_eq_getElem hi]; rfl] at this
            exact this
          have hcv : coverB l t = decide (l.box.1 ≤ sumI D) := by unfold coverB; rw [hD]
          rw [hD, hnw] at HDU
          have HDB := Lib.hid (And.intro hDl (And.intro hDb hcv))
          obtain ⟨s, hs⟩ : ∃ s, sumI D = s := ⟨_, rfl⟩
          have HSE := Lib.hid hs
          clear hD hDl hDb hcv hs
          go_wp2_with fail
          refine wp_region_rg 10 [] none [(5, ⟨fun _ v => ∃ o c, v = .slice o n c, fun _ v Wx => SlAt 1 Wx v n (intCells D)⟩), (6, Spec.val (iv s))] (by as_aux_lemma => kernel_rfl) (by as_aux_lemma => kernel_rfl) ?_
          simp only [List.take_succ_cons, List.take_zero, List.drop_succ_cons, List.drop_zero]
          repeat (first | (refine tree_det (by rfl) _ (by rfl) (fun W hW => by go_simp; (try simp (disch := omega) only [IntWalk.i64_in]); try rfl) ?_; simp only [Act.put, List.setIfInBounds_toArray, List.set_cons_succ, List.set_cons_zero]) | (refine tree_skip (by rfl) (by rfl) ?_; simp only [Act.put, List.setIfInBounds_toArray, List.set_cons_succ, List.set_cons_zero]))
          refine tree_some _ (by rfl) (by rfl) (by exact ⟨.slice none n 0, none, 0, rfl⟩) (fun Wa hE hF => ?_) (fun v Wa Wb ho hE => SlAt.below ho (Ext.below (show Ext [] Wa Wb from hE)) (Nat.le_refl _)) (fun v hv => ?_)
          · have hE' : Ext [] wr Wa := hE
            refine does_enter 59 #[lv l tv (.slice no nn nc), .slice o3 t.length c3] (by go_simp; try rfl) ?_
            refine (HDU.out Wa hE'.below).mono ?_
            rintro e W' ⟨u, rfl, hu, hb⟩
            exact ⟨_, rfl, owns_slice hu, SlAt.of_owns hu, Ext.of_below hb⟩
          obtain ⟨o5, c5, rfl⟩ := hv
          simp only [Act.put, List.setIfInBounds_toArray, List.set_cons_succ, List.set_cons_zero]
          refine tree_val _ (by rfl) (by rfl) 26 #[.slice o5 n c5] (fun W hW => by go_simp; try rfl) (fun W hE hF => ?_) ?_
          · have hu : SlAt 1 W (.slice o5 n c5) n (intCells D) := hF _ (List.Mem.head _) (by kernel_rfl)
            have := zSum_any D (.slice o5 n c5) W (by unfold IntsAt; rw [HDB.out.1]; exact hu) (fun x hx => by have := HDB.out.2.1 x hx; omega) (by have := HDB.out.1; omega)
            rw [HSE.out] at this
            exact this
          simp only [Act.put, List.setIfInBounds_toArray, List.set_cons_succ, List.set_cons_zero]
          repeat (first | (refine tree_det (by rfl) _ (by rfl) (fun W hW => by go_simp; (try simp (disch := omega) only [IntWalk.i64_in]); try rfl) ?_; simp only [Act.put, List.setIfInBounds_toArray, List.set_cons_succ, List.set_cons_zero]) | (refine tree_skip (by rfl) (by rfl) ?_; simp only [Act.put, List.setIfInBounds_toArray, List.set_cons_succ, List.set_cons_zero]))
          intro X hE hF
          have HXX := Lib.hid (bgo HX.out.2.2.1 (Ext.below (show Ext [] wr X from hE)))
          clear hE hF c0 f0 l0' e0 hg0
          by_cases hge : l.box.1 ≤ s
          · have hgeb : decide (s ≥ l.box.1) = true := by simpa using hge
            have HV0 := Lib.hid (show faultW l = 0 from by rw [HVV.out, if_neg (by rw [HX.out.2.1 (by rw [HDB.out.2.2, HSE.out]; simpa using hge)]; simp)])
            go_wp2_with fail
            go_returns
            exact ⟨by rw [HV0.out]; simp, bgo HBR.out.1 HXX.out⟩
          · have hgeb : decide (s ≥ l.box.1) = false := by simpa using hge
            have HNJ := Lib.hid (show ((rtruths l.field).take (j + 1)).any (coverB l) = false from by rw [HX.out.1, HDB.out.2.2, HSE.out]; simpa using hge)
            go_wp2_with fail
            go_roundw
            case rel => exact ⟨j + 1, by omega, by go_num, HNJ.out, HXX.out⟩
            case measure => simp [intOf]; omega
        · have hje : j = es.length := by omega
          have hV9 := Lib.hid (show faultW l = 9 from by
            rw [hje, ← List.length_map (f := fun x : LE => x.2), HB2.out.2.2.2, List.take_length] at hno
            rw [HVV.out, if_pos hno])
          have HX := Lib.hid hBr
          have hnl : ¬ (j : Int) < es.length := by omega
          clear hno hB hBr hB2r hk0
          go_wp2_with fail
          go_returns
          exact ⟨by rw [hV9.out]; simp, HX.out⟩
end Go.Proofs.YtdjgikcnmokjkaaGreat

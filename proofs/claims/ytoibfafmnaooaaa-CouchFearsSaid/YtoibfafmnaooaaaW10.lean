/-
  Contracts of package couch, ninth part: ProveTruth.
-/
import Derived.WalkKit
import Derived.WalkLawsBesides
import Derived.WalkSpells
import Derived.Outline
import Derived.Handy
import Derived.KernelRfl
import Derived.Lib.Hide
import Derived.Test.YtoibfafmnaooaaaW9
namespace Go.Proofs.Ytoibfafmnaooaaa
open Go.RowKit Go.RG Go.SL Go.Shelf Cou
set_option maxHeartbeats 400000
set_option maxRecDepth 10000

theorem truth1_any (h : HeapD) (hS : Sound h) (x : Rdg) (hx : x ∈ h.readings) (b : Nat) (l : List Int) (h10 : l.length = 10) (hl : ∀ n ∈ l, 0 ≤ n ∧ n ≤ 900) (W : World) (hb : W.heap[b]? = some (.cells (intCells l).toArray 127 (0, 0))) :
    Calls Try.prog 94 #[xv x, .pointer (some ⟨b, 0, none⟩)] W (PV (.bool (rightR x l)) W) := by
  obtain ⟨y0, y1, y2, y3, y4, y5, y6, y7, y8, y9, rfl⟩ := ten_of h10
  have hlt := (Array.getElem?_eq_some_iff.1 hb).1
  have hc0 : ∀ i, W.cell? ⟨b, i, none⟩ = (#[iv y0, iv y1, iv y2, iv y3, iv y4, iv y5, iv y6, iv y7, iv y8, iv y9] : Array Value)[i]? := fun i => by
    simp only [World.cell?, hb]; rfl
  obtain ⟨⟨k1, k2⟩, ⟨k3, k4⟩, k5, k6⟩ := hS.rdg x hx
  have k7 := hS.last9
  have HR := Lib.hid (fun W => right_any x y0 y1 y2 y3 y4 y5 y6 y7 y8 y9 W k1 (by omega) k3 k4 k5 k6 (fun n hn => by have := hl n hn; omega))
  clear hb hl hS hx
  generalize hrr : rightR x [y0, y1, y2, y3, y4, y5, y6, y7, y8, y9] = q at HR
  clear hrr
  go_enter Try.func94, Try.ntmps94
  go_wp2_with fail
  refine (HR.out _).mono ?_
  rintro e w' ⟨rfl, hb⟩
  obtain ⟨hc, hf⟩ := bcell hb
  go_wp2_with fail
  go_returns
  exact ⟨by simp, bgo (bgoAlloc (Below.refl _ _) _) hb⟩

def proveR (h : HeapD) (t : Int × List Int) : Bool := decide (fault h = 0) && isTruth h t

theorem ProveTruth_any (h : HeapD) (wv tv xv' ws : Value) (start : Int) (wet : List Int) (w : World) (hw : PairsAt w wv h.wet) (ht : IntsAt w tv h.turns) (hx : TriplesAt w xv' h.readings) (hws : IntsAt w ws wet) :
    Calls Try.prog 55 #[hv h wv tv xv', .agg #[iv start, ws]] w (PV (.bool (proveR h (start, wet))) w) := by
  obtain ⟨ow, cw, rfl⟩ := hw.open
  obtain ⟨ot, ct, rfl⟩ := ht.open
  obtain ⟨ox, cx, rfl⟩ := hx.open
  have HW := Lib.hid hw
  have HT := Lib.hid ht
  have HX := Lib.hid hx
  clear hw ht hx
  obtain ⟨os, cs, rfl⟩ := hws.open
  have HS := Lib.hid hws
  clear hws
  by_cases hf0 : fault h = 0
  case neg =>
    have hres : proveR h (start, wet) = false := by simp [proveR, hf0]
    rw [hres]
    generalize hff : fault h = f at *
    have HF := Lib.hid hff
    clear hff hres
    go_enter Try.func55, Try.ntmps55
    go_wp2_with fail
    (refine (check_any h _ _ _ _ ((HW.out.alloc _).alloc _) ((HT.out.alloc _).alloc _) ((HX.out.alloc _).alloc _)).mono ?_; rintro e w' ⟨rfl, hb⟩; obtain ⟨hc, hf⟩ := bcell hb; have hz0 : w.heap.size < w'.heap.size := (by have := hb.size; (try simp only [World.size_alloc] at this); omega); have hz1 : w.heap.size + 1 < w'.heap.size := (by have := hb.size; (try simp only [World.size_alloc] at this); omega))
    rw [HF.out]
    go_wp2_with fail
    go_returns
    exact ⟨by simp, (by repeat (first | exact Below.refl _ _ | assumption | refine bgo ?_ (by assumption) | refine bgoAlloc ?_ _ | refine bgoDrew ?_ | refine bgoSet ?_ (by simp; omega) _))⟩
  have hS := sound_of hf0
  obtain ⟨hl0, hl9, hwl⟩ : 0 ≤ h.last ∧ h.last ≤ 9 ∧ (h.wet.length : Int) = h.last + 1 := ⟨hS.last0, hS.last9, hS.wetLen⟩
  have HF := Lib.hid hf0
  have HSS := Lib.hid hS
  clear hf0 hS
  cases hl : listedT h (start, wet)
  · have hres : proveR h (start, wet) = false := by simp [proveR, isTruth, hl]
    rw [hres]
    have HL := Lib.hid hl
    clear hl hres
    go_enter Try.func55, Try.ntmps55
    go_wp2_with fail
    (refine (check_any h _ _ _ _ ((HW.out.alloc _).alloc _) ((HT.out.alloc _).alloc _) ((HX.out.alloc _).alloc _)).mono ?_; rintro e w' ⟨rfl, hb⟩; obtain ⟨hc, hf⟩ := bcell hb; have hz0 : w.heap.size < w'.heap.size := (by have := hb.size; (try simp only [World.size_alloc] at this); omega); have hz1 : w.heap.size + 1 < w'.heap.size := (by have := hb.size; (try simp only [World.size_alloc] at this); omega))
    rw [HF.out]
    have HB := Lib.hid (show Below w.heap.size w w' from (by repeat (first | exact Below.refl _ _ | assumption | refine bgo ?_ (by assumption) | refine bgoAlloc ?_ _ | refine bgoDrew ?_ | refine bgoSet ?_ (by simp; omega) _)))
    clear hb
    go_wp2_with fail
    refine (listed_any h _ _ _ _ start wet _ (HW.out.below HB.out (Nat.le_refl _)) (HS.out.below HB.out (Nat.le_refl _)) hl0 hl9 hwl).mono ?_
    rintro e w2 ⟨rfl, hb⟩
    rw [HL.out]
    go_wp2_with fail
    go_returns
    exact ⟨by simp, bgo HB.out hb⟩
  · obtain ⟨y0, y1, y2, y3, y4, y5, y6, y7, y8, y9, hy⟩ := ten_of (heatsTo_length h.size h.cool h.turns start wet wet.length)
    have HY : Hid (heats h (start, wet) h.turns = [y0, y1, y2, y3, y4, y5, y6, y7, y8, y9]) := Lib.hid hy
    have hres : proveR h (start, wet) = h.readings.all (rightR · [y0, y1, y2, y3, y4, y5, y6, y7, y8, y9]) := by simp [proveR, isTruth, hl, HF.out, HY.out]
    rw [hres]
    have HL := Lib.hid hl
    clear hl hres hy
    go_enter Try.func55, Try.ntmps55
    go_wp2_with fail
    (refine (check_any h _ _ _ _ ((HW.out.alloc _).alloc _) ((HT.out.alloc _).alloc _) ((HX.out.alloc _).alloc _)).mono ?_; rintro e w' ⟨rfl, hb⟩; obtain ⟨hc, hf⟩ := bcell hb; have hz0 : w.heap.size < w'.heap.size := (by have := hb.size; (try simp only [World.size_alloc] at this); omega); have hz1 : w.heap.size + 1 < w'.heap.size := (by have := hb.size; (try simp only [World.size_alloc] at this); omega))
    rw [HF.out]
    have HB := Lib.hid (show Below w.heap.size w w' from (by repeat (first | exact Below.refl _ _ | assumption | refine bgo ?_ (by assumption) | refine bgoAlloc ?_ _ | refine bgoDrew ?_ | refine bgoSet ?_ (by simp; omega) _)))
    have HC := Lib.hid hb
    clear hb
    go_wp2_with fail
    refine (listed_any h _ _ _ _ start wet _ (HW.out.below HB.out (Nat.le_refl _)) (HS.out.below HB.out (Nat.le_refl _)) hl0 hl9 hwl).mono ?_
    rintro e w3 ⟨rfl, hb⟩
    rw [HL.out]
    have HB3 := Lib.hid (bgo HB.out hb)
    have HC3 := Lib.hid (bgo HC.out hb)
    clear hb hc hf
    have hA0 := (HC3.out.block w.heap.size (by simp; omega)).trans ((Below.heap_alloc _ _ _ (by simp)).trans (heap_new0 _ _))
    have hA1 := (HC3.out.block (w.heap.size + 1) (by simp)).trans (heap_new1 _ _ _)
    have hs0 : w.heap.size < w3.heap.size := (Array.getElem?_eq_some_iff.1 hA0).1
    have hs1 : w.heap.size + 1 < w3.heap.size := (Array.getElem?_eq_some_iff.1 hA1).1
    have hc0 : ∀ i, w3.cell? ⟨w.heap.size, i, none⟩ = (#[.int .i64 h.last, .int .i64 h.size, .int .i64 h.cool, .int .i64 h.die, .int .i64 h.burn, .int .i64 h.start.1, .int .i64 h.start.2, .slice ow h.wet.length cw, .slice ot h.turns.length ct, .slice ox h.readings.length cx] : Array Value)[i]? := fun i => by
      simp only [World.cell?, hA0]; rfl
    have hc1 : ∀ i, w3.cell? ⟨w.heap.size + 1, i, none⟩ = (#[iv start, .slice os wet.length cs] : Array Value)[i]? := fun i => by
      simp only [World.cell?, hA1]; rfl
    have HA0 := Lib.hid hA0
    have HA1 := Lib.hid hA1
    clear hA0 hA1
    go_wp2_with fail
    refine wp_region_rgM 7 (CObj h.cool) (some 5) [(1, workSpec w3.heap.size h (.slice ow h.wet.length cw) (.slice ot h.turns.length ct) (.slice ox h.readings.length cx)), (5, ⟨fun _ v => v = .agg #[iv y0, iv y1, iv y2, iv y3, iv y4, iv y5, iv y6, iv y7, iv y8, iv y9], fun _ _ _ => True⟩), (6, Spec.block w3.heap.size #[iv 0, iv 0, iv 0, iv 0, iv 0, iv 0, iv 0, iv 0, iv 0, iv 0] 127)] (by kernel_rfl) (by kernel_rfl) ?_
    simp only [List.take_succ_cons, List.take_zero, List.drop_succ_cons, List.drop_zero]
    repeat (refine tree_det (by rfl) _ (by rfl) (fun W hW => by go_simp; (try simp (disch := omega) only [IntWalk.i64_in, Int.tdiv_eq_ediv_of_nonneg]); try rfl) ?_; simp only [Act.put, List.setIfInBounds_toArray, List.set_cons_succ, List.set_cons_zero])
    refine tree_some _ (by rfl) (by rfl) (by exact ⟨.pointer (some ⟨0, 0, none⟩), 0, rfl⟩) (fun W hE hF => ?_) (fun v W W' hc hE => work_stays hE hc) (fun v hv => ?_)
    · have hE' : ExtM w3.heap.size (CObj h.cool) w3 W := hE
      have hs3 := hE'.size
      refine does_enter 71 #[hv h (.slice ow h.wet.length cw) (.slice ot h.turns.length ct) (.slice ox h.readings.length cx)] (by go_simp; try rfl) ?_
      refine (work_any h ow ot ox _ _ _ _ _ _ W).mono ?_
      rintro e W' ⟨wb, mb, rfl, h1, h2, h3, h4⟩
      exact ⟨_, rfl, ⟨wb, rfl⟩, ⟨wb, mb, rfl, by omega, by omega, h3⟩, Ext.of_below h4⟩
    obtain ⟨wb, rfl⟩ := hv
    simp only [Act.put, List.setIfInBounds_toArray, List.set_cons_succ, List.set_cons_zero]
    repeat (refine tree_det (by rfl) _ (by rfl) (fun W hW => by go_simp; (try simp (disch := omega) only [IntWalk.i64_in, Int.tdiv_eq_ediv_of_nonneg]); try rfl) ?_; simp only [Act.put, List.setIfInBounds_toArray, List.set_cons_succ, List.set_cons_zero])
    refine tree_some _ (by rfl) (by rfl) ⟨_, rfl⟩ (fun W hE hF => ?_) (fun _ _ _ _ _ => trivial) (fun v hv => ?_)
    · have hE' : Ext [] w3 W := hE
      obtain ⟨wb', mb, hwb, h1, h2, h3⟩ := hF _ (List.Mem.head _) (by kernel_rfl)
      cases hwb
      obtain ⟨k1, k2, k3, k4, k5⟩ := listed_of HSS.out HL.out
      refine does_enter 80 #[.pointer (some ⟨wb, 0, none⟩), .agg #[iv start, .slice os wet.length cs], .slice ot h.turns.length ct] (by go_simp; try rfl) ?_
      refine (play_any h _ _ _ wb mb start wet h.turns _ _ W h3 (HS.out.below (bgo HB3.out hE'.below) (Nat.le_refl _)) (HT.out.below (bgo HB3.out hE'.below) (Nat.le_refl _)) k2 HSS.out.size0 HSS.out.size1 HSS.out.cool0 HSS.out.cool1 k3 k4 k5).mono ?_
      rintro e W' ⟨rfl, hcc, hE2⟩
      exact ⟨_, rfl, by rw [HY.out]; rfl, trivial, ExtM.of_one hE2 (by omega) h3.cache.noCells hcc.obj⟩
    obtain rfl : v = .agg #[iv y0, iv y1, iv y2, iv y3, iv y4, iv y5, iv y6, iv y7, iv y8, iv y9] := hv
    simp only [Act.put, List.setIfInBounds_toArray, List.set_cons_succ, List.set_cons_zero]
    refine tree_blockM w3.heap.size _ _ (by rfl) (Nat.le_refl _) (by rfl) (by simp) (fun W hW => by go_simp; try rfl) (fun b => ?_)
    simp only [Act.put, List.setIfInBounds_toArray, List.set_cons_succ, List.set_cons_zero]
    intro W hE hF
    obtain ⟨b', hb, hbB, hblk⟩ := hF _ (List.Mem.head _)
    cases hb
    have hEx : Ext [] w3 W := Kept.ext hE
    obtain ⟨hc, hf⟩ := bcell hEx.below
    have hfr := frozen_of_block hblk
    have HBK := Lib.hid hblk
    have HE := Lib.hid (bgo HB3.out hEx.below)
    have hwb := (Array.getElem?_eq_some_iff.1 hblk).1
    have hws : w.heap.size < W.heap.size := by omega
    have hg : ∀ i, W.cell? ⟨b, i, none⟩ = (#[iv 0, iv 0, iv 0, iv 0, iv 0, iv 0, iv 0, iv 0, iv 0, iv 0] : Array Value)[i]? := fun i => by
      simp only [World.cell?, hblk]; rfl
    have hnb : ¬ w.heap.size = b := by omega
    clear hblk hF hE hEx
    go_wp2_with fail
    have HB4 : Hid (Below w.heap.size w _) := Lib.hid (show Below w.heap.size w ((((((((((W.setCell ⟨b, 0, none⟩ (iv y0)).setCell ⟨b, 1, none⟩ (iv y1)).setCell ⟨b, 2, none⟩ (iv y2)).setCell ⟨b, 3, none⟩ (iv y3)).setCell ⟨b, 4, none⟩ (iv y4)).setCell ⟨b, 5, none⟩ (iv y5)).setCell ⟨b, 6, none⟩ (iv y6)).setCell ⟨b, 7, none⟩ (iv y7)).setCell ⟨b, 8, none⟩ (iv y8)).setCell ⟨b, 9, none⟩ (iv y9)) from by repeat (first | refine bgoSet ?_ (by show w.heap.size ≤ b; omega) _ | exact HE.out))
    have hK4 := set_ten HBK.out (iv y0) (iv y1) (iv y2) (iv y3) (iv y4) (iv y5) (iv y6) (iv y7) (iv y8) (iv y9)
    refine (allX_pure h.readings (.slice ox h.readings.length cx) 94 #[] #[.pointer (some ⟨b, 0, none⟩)] (rightR · [y0, y1, y2, y3, y4, y5, y6, y7, y8, y9]) _ (HX.out.below HB4.out (Nat.le_refl _)) (enters_of Try.func94 (by kernel_rfl) rfl) ?_).mono ?_
    · intro x hx W' hW'
      refine truth1_any h HSS.out x hx b _ rfl ?_ W' ((hW'.block b ?_).trans hK4)
      · obtain ⟨k1, k2, k3, k4, k5⟩ := listed_of HSS.out HL.out
        rw [← HY.out]
        exact heats_bd h.turns HSS.out.size0 HSS.out.size1 HSS.out.cool0 HSS.out.cool1 k3 k4 k5 k2
      · simpa [World.setCell] using hwb
    · rintro e w5 ⟨rfl, hb⟩
      have HB5 := Lib.hid (bgo HB4.out hb)
      clear hb
      go_wp2_with fail
      go_returns
      exact ⟨by simp, HB5.out⟩

end Go.Proofs.Ytoibfafmnaooaaa

/-
  Contracts of the reference: IsListed, IsTruth; of the law: fault, Truth.
-/
import Derived.WalkKit
import Derived.WalkLawsBesides
import Derived.WalkSpells
import Derived.Outline
import Derived.Handy
import Derived.KernelRfl
import Derived.Lib.Hide
import Derived.Test.YtoibfafmnaooaaaR8
namespace Go.Proofs.Ytoibfafmnaooaaa
open Go.RowKit Go.RG Go.SL Go.Shelf Cou
set_option maxHeartbeats 400000
set_option maxRecDepth 10000

theorem lawFault_any (h : HeapD) (wv tv xv' : Value) (w : World) (hw : PairsAt w wv h.wet) (ht : IntsAt w tv h.turns) (hx : TriplesAt w xv' h.readings) :
    Calls Try.prog 24 #[hv h wv tv xv'] w (PV (iv (fault h)) w) := by
  obtain ⟨ow, cw, rfl⟩ := hw.open
  obtain ⟨ot, ct, rfl⟩ := ht.open
  obtain ⟨ox, cx, rfl⟩ := hx.open
  have HW := Lib.hid hw
  have HT := Lib.hid ht
  have HX := Lib.hid hx
  clear hw ht hx
  obtain ⟨f, hf⟩ : ∃ f, fault h = f := ⟨_, rfl⟩
  rw [hf]
  have HF := Lib.hid hf
  clear hf
  go_enter Try.func24, Try.ntmps24
  go_wp2_with fail
  refine (Fault_any h _ _ _ _ (HW.out.alloc _) (HT.out.alloc _) (HX.out.alloc _)).mono ?_
  rw [HF.out]
  rintro e W1 ⟨rfl, hb⟩
  have HB := Lib.hid hb
  clear hb
  go_wp2_with fail
  go_returns
  exact ⟨by simp, bgo (bgoAlloc (Below.refl _ _) _) HB.out⟩

def listedB (h : HeapD) (t : Int × List Int) : Bool := decide (t.2.length = h.wet.length) && (inB t.1 h.start.1 h.start.2 && (List.range h.wet.length).all (listedAt h t))
theorem listedB_eq {h : HeapD} (hw : (h.wet.length : Int) = h.last + 1) (t : Int × List Int) : listedB h t = listedT h t := by
  unfold listedB listedT
  congr 1
  rw [Bool.eq_iff_iff]
  simp [bne]
  omega

theorem TruthAt.box {W : World} {b : Nat} {t : Int × List Int} {uv : Value} {ty : TypeId} (h : W.heap[b]? = some (.cells #[iv t.1, uv] ty (0, 0))) : W.cell? ⟨b, 0, none⟩ = some (iv t.1) := (cells_of_block h).1 0

set_option maxHeartbeats 2000000 in
theorem IsListed_any (h : HeapD) (wv tv xv' uv : Value) (t : Int × List Int) (w : World) (hw : PairsAt w wv h.wet) (ht : IntsAt w tv h.turns) (hx : TriplesAt w xv' h.readings) (hu : IntsAt w uv t.2) :
    Calls Try.prog 58 #[hv h wv tv xv', .agg #[iv t.1, uv]] w (PV (.bool (listedB h t)) w) := by
  have hlen1 := hw.len
  have hlen2 := hu.len
  obtain ⟨ow, cw, rfl⟩ := hw.open
  obtain ⟨ot, ct, rfl⟩ := ht.open
  obtain ⟨ox, cx, rfl⟩ := hx.open
  have HW := Lib.hid hw
  have HT := Lib.hid ht
  have HX := Lib.hid hx
  clear hw ht hx
  obtain ⟨ou, cu, rfl⟩ := hu.open
  have HU := Lib.hid hu
  clear hu
  obtain ⟨q, hq⟩ : ∃ q, listedB h t = q := ⟨_, rfl⟩
  rw [hq]
  have HQ := Lib.hid hq
  clear hq
  by_cases hl : t.2.length = h.wet.length
  case neg =>
    have hb : ((t.2.length : Int) != (h.wet.length : Int)) = true := by simp; omega
    obtain rfl : q = false := by rw [← HQ.out]; simp [listedB, hl]
    clear hl
    go_enter Try.func58, Try.ntmps58
    go_wp2_with fail
    go_returns
    exact ⟨by simp, (by repeat (first | exact Below.refl _ _ | assumption | refine bgo ?_ (by assumption) | refine bgoAlloc ?_ _ | refine bgoDrew ?_ | refine bgoSet ?_ (by simp; omega) _))⟩
  have hb : ((t.2.length : Int) != (h.wet.length : Int)) = false := by simp [hl]
  have HL := Lib.hid hl
  clear hl
  cases hin : inB t.1 h.start.1 h.start.2
  · obtain rfl : q = false := by rw [← HQ.out]; simp [listedB, hin]
    go_enter Try.func58, Try.ntmps58
    go_wp2_with fail
    refine (In_any _ _ _ _).mono ?_
    rw [hin]
    rintro e W1 ⟨rfl, hb1⟩
    have HB := Lib.hid hb1
    clear hb1
    go_wp2_with fail
    go_returns
    exact ⟨by simp, bgo (bgoAlloc (bgoAlloc (Below.refl _ _) _) _) HB.out⟩
  · have HIN := Lib.hid hin
    go_enter Try.func58, Try.ntmps58
    go_wp2_with fail
    refine (In_any _ _ _ _).mono ?_
    rw [hin]
    rintro e W1 ⟨rfl, hb1⟩
    have HB1 := Lib.hid (show Below w.heap.size w W1 from bgo (bgoAlloc (bgoAlloc (Below.refl _ _) _) _) hb1)
    have HX1 := Lib.hid (show W1.heap[w.heap.size]? = some (.cells #[.int .i64 h.last, .int .i64 h.size, .int .i64 h.cool, .int .i64 h.die, .int .i64 h.burn, .int .i64 h.start.1, .int .i64 h.start.2, .slice ow h.wet.length cw, .slice ot h.turns.length ct, .slice ox h.readings.length cx] 28 (0, 0)) from (hb1.block _ (by simp; omega)).trans ((Below.heap_alloc _ _ _ (by simp)).trans (heap_new0 _ _)))
    have HX2 := Lib.hid (show W1.heap[w.heap.size + 1]? = some (.cells #[iv t.1, .slice ou t.2.length cu] 66 (0, 0)) from (hb1.block _ (by simp)).trans (heap_new1 _ _ _))
    have hc1 := (bcell hb1).1
    have hz1 : w.heap.size + 1 < W1.heap.size := by have := hb1.size; simp only [World.size_alloc] at this; omega
    clear hb1 hin
    go_wp2_with fail
    clear hc1
    go_loopw [5] (fun u wr => ∃ k : Nat, k ≤ t.2.length ∧ u = .int .i64 k ∧ Below W1.heap.size W1 wr ∧ ∀ j, j < k → listedAt h t j = true) (fun u _ => t.2.length - (intOf u).toNat)
    case atStart => exact ⟨0, Nat.zero_le _, rfl, Below.refl _ _, fun j hj => by omega⟩
    case round =>
      obtain ⟨k, hk, rfl, hB, hno⟩ := hrel
      obtain ⟨hx1c, _, hx1s⟩ := cells_of_block ((hB.block _ (cells_of_block HX1.out).2.2).trans HX1.out)
      obtain ⟨hx2c, _, hx2s⟩ := cells_of_block ((hB.block _ (cells_of_block HX2.out).2.2).trans HX2.out)
      have hHW := (HW.out.below HB1.out (Nat.le_refl _)).below hB (Nat.le_refl _)
      have hHU := (HU.out.below HB1.out (Nat.le_refl _)).below hB (Nat.le_refl _)
      have HN := Lib.hid (And.intro hno hB)
      clear hno hB
      by_cases hlt : k < t.2.length
      · have hlm : k < h.wet.length := by have := HL.out; omega
        obtain ⟨b1, off, rfl, hb1, d1⟩ := IntsAt.cell hHU hlt
        obtain ⟨b2, off', rfl, hb2, d2, d3⟩ := PairsAt.cell hHW hlm
        have hltI : (k : Int) < t.2.length := by omega
        have hlmI : (k : Int) < h.wet.length := by omega
        have g : listedAt h t k = inB t.2[k] h.wet[k].1 h.wet[k].2 := by simp [listedAt, List.getD, hlt, hlm]
        clear hHW hHU
        generalize t.2[k] = x at *
        generalize h.wet[k] = y at *
        have HG := Lib.hid g
        clear g
        cases hxy : inB x y.1 y.2
        · obtain rfl : q = false := by
            rw [← HQ.out]
            simp only [listedB, Bool.and_eq_false_iff]
            right; right
            rw [List.all_eq_false]
            exact ⟨k, by simpa using hlm, by rw [HG.out, hxy]; simp⟩
          go_wp2_with fail
          refine wp_region_rg 19 [] none [(17, Spec.val (.bool false))] (by kernel_rfl) (by kernel_rfl) ?_
          simp only [List.take_succ_cons, List.take_zero, List.drop_succ_cons, List.drop_zero]
          repeat (first | (refine tree_det (by rfl) _ (by rfl) (fun W hW => by go_simp; (try simp (disch := omega) only [IntWalk.i64_in]); try rfl) ?_; simp only [Act.put, List.setIfInBounds_toArray, List.set_cons_succ, List.set_cons_zero]) | (refine tree_skip (by rfl) (by rfl) ?_; simp only [Act.put, List.setIfInBounds_toArray, List.set_cons_succ, List.set_cons_zero]))
          refine tree_val _ (by rfl) (by rfl) 43 _ (fun W hW => by go_simp; try rfl) (fun W hE hF => by exact by have := In_any x y.1 y.2 W; rw [hxy] at this; exact this) ?_
          simp only [Act.put, List.setIfInBounds_toArray, List.set_cons_succ, List.set_cons_zero]
          repeat (first | (refine tree_det (by rfl) _ (by rfl) (fun W hW => by go_simp; (try simp (disch := omega) only [IntWalk.i64_in]); try rfl) ?_; simp only [Act.put, List.setIfInBounds_toArray, List.set_cons_succ, List.set_cons_zero]) | (refine tree_skip (by rfl) (by rfl) ?_; simp only [Act.put, List.setIfInBounds_toArray, List.set_cons_succ, List.set_cons_zero]))
          intro W hE hF
          obtain ⟨hc, hf⟩ := bcell hE.below
          have hzE := hE.size
          (try simp only [World.size_alloc] at hzE)
          have HE := Lib.hid hE
          clear hE hF
          go_wp2_with fail
          go_returns
          exact ⟨by simp, bgo HB1.out (bgo HN.out.2 HE.out.below)⟩
        · go_wp2_with fail
          refine wp_region_rg 19 [] none [(17, Spec.val (.bool true))] (by kernel_rfl) (by kernel_rfl) ?_
          simp only [List.take_succ_cons, List.take_zero, List.drop_succ_cons, List.drop_zero]
          repeat (first | (refine tree_det (by rfl) _ (by rfl) (fun W hW => by go_simp; (try simp (disch := omega) only [IntWalk.i64_in]); try rfl) ?_; simp only [Act.put, List.setIfInBounds_toArray, List.set_cons_succ, List.set_cons_zero]) | (refine tree_skip (by rfl) (by rfl) ?_; simp only [Act.put, List.setIfInBounds_toArray, List.set_cons_succ, List.set_cons_zero]))
          refine tree_val _ (by rfl) (by rfl) 43 _ (fun W hW => by go_simp; try rfl) (fun W hE hF => by exact by have := In_any x y.1 y.2 W; rw [hxy] at this; exact this) ?_
          simp only [Act.put, List.setIfInBounds_toArray, List.set_cons_succ, List.set_cons_zero]
          repeat (first | (refine tree_det (by rfl) _ (by rfl) (fun W hW => by go_simp; (try simp (disch := omega) only [IntWalk.i64_in]); try rfl) ?_; simp only [Act.put, List.setIfInBounds_toArray, List.set_cons_succ, List.set_cons_zero]) | (refine tree_skip (by rfl) (by rfl) ?_; simp only [Act.put, List.setIfInBounds_toArray, List.set_cons_succ, List.set_cons_zero]))
          intro W hE hF
          obtain ⟨hc, hf⟩ := bcell hE.below
          have hzE := hE.size
          (try simp only [World.size_alloc] at hzE)
          have HE := Lib.hid hE
          clear hE hF
          go_wp2_with fail
          go_roundw
          case rel =>
            refine ⟨k + 1, by omega, by go_num, bgo HN.out.2 HE.out.below, fun j hj => ?_⟩
            by_cases e : j = k
            · subst e; rw [HG.out]; exact hxy
            · exact HN.out.1 j (by omega)
          case measure => simp [intOf]; omega
      · have hkl : k = t.2.length := by omega
        obtain rfl : q = true := by
          rw [← HQ.out]
          simp only [listedB, Bool.and_eq_true, decide_eq_true_eq, List.all_eq_true, List.mem_range]
          exact ⟨HL.out, HIN.out, fun j hj => HN.out.1 j (by have := HL.out; omega)⟩
        clear hHW hHU
        go_wp2_with fail
        go_returns
        exact ⟨by simp, bgo HB1.out HN.out.2⟩

theorem getD_map_range {f : Nat → Int} {n i : Nat} (h : i < n) : ((List.range n).map f).getD i 0 = f i := by simp [List.getD, h]

theorem right_eq {h : HeapD} (hS : Sound h) {t : Int × List Int} (hl : listedT h t = true) {x : Rdg} (hx : x ∈ h.readings) : rightB h t x = rightR x (heats h t h.turns) := by
  obtain ⟨h1, h2, _⟩ := listed_of hS hl
  have hr := hS.rdg x hx
  have hw := hS.wetLen
  have : (heats h t h.turns).getD x.1.toNat 0 = heatAt h.size h.cool h.turns t.1 t.2 (x.1.toNat + 1) := by
    unfold heats heatsTo
    rw [getD_map_range (by have := hS.last9; omega), if_pos (by omega)]
  unfold rightB rightR
  rw [this, Bool.eq_iff_iff]
  simp only [inB, Bool.and_eq_true, decide_eq_true_eq]
  omega

end Go.Proofs.Ytoibfafmnaooaaa

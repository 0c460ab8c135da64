/-
  Contracts of the law: turned, narrower, needed.
-/
import Derived.WalkKit
import Derived.WalkLawsBesides
import Derived.WalkSpells
import Derived.Outline
import Derived.Handy
import Derived.KernelRfl
import Derived.Lib.Hide
import Derived.Test.YtoibfafmnaooaaaL2
import Derived.Test.YtoibfafmnaooaaaM11
namespace Go.Proofs.Ytoibfafmnaooaaa
open Go.RowKit Go.RG Go.SL Go.Shelf Cou
set_option maxHeartbeats 400000
set_option maxRecDepth 10000

/-- Turnings by bits. -/
def turnedL (h : HeapD) (bs : Nat) : List Int := bitsL (bs &&& (2 ^ (h.last.toNat + 1) - 1))
theorem turned_lt (h : HeapD) (bs : Nat) : bs &&& (2 ^ (h.last.toNat + 1) - 1) < 2 ^ (h.last.toNat + 1) := by
  have : bs &&& (2 ^ (h.last.toNat + 1) - 1) ≤ 2 ^ (h.last.toNat + 1) - 1 := Nat.and_le_right
  have := Nat.one_le_two_pow (n := h.last.toNat + 1)
  omega
theorem turned_turns {h : HeapD} (h0 : 0 ≤ h.last) (bs : Nat) : isTurns h.last (turnedL h bs) = true := by
  rw [turns_inc h0]
  unfold turnedL
  rw [bitsL_eq (turned_lt h bs), show (h.last + 1).toNat = h.last.toNat + 1 from by omega]
  exact inc_bitsTo _ _

theorem turned_any (h : HeapD) (a b c : Value) (bs : Nat) (w : World) (h0 : 0 ≤ h.last) (h9 : h.last ≤ 9) (hb : (bs : Int) ≤ 65535) :
    Calls Try.prog 34 #[hv h a b c, .int .u16 bs] w (PInts (turnedL h bs) w) := by
  obtain ⟨n, hn⟩ : ∃ n, h.last.toNat = n := ⟨_, rfl⟩
  have hn9 : n ≤ 9 := by omega
  obtain ⟨hp1, hp2⟩ := pow_bd hn9
  have hpN : 2 ^ (n + 1) ≤ 2 ^ 10 := Nat.pow_le_pow_right (by omega) (by omega)
  have hp1N := Nat.one_le_two_pow (n := n + 1)
  have hlt := turned_lt h bs
  have HQ : Hid (turnedL h bs = bitsL (bs &&& (2 ^ (n + 1) - 1))) := Lib.hid (by unfold turnedL; rw [hn])
  rw [hn] at hlt
  have hand := and_nat bs (2 ^ (n + 1) - 1) (by omega) (by omega)
  rw [← pow_cast2] at hand
  generalize bs &&& (2 ^ (n + 1) - 1) = r at *
  have HL : Hid (r < 2 ^ (n + 1) ∧ n + 1 ≤ 16) := Lib.hid ⟨hlt, by omega⟩
  clear hlt hpN hp1N
  go_enter Try.func34, Try.ntmps34
  go_wp2_with fail
  refine (Bits_any r (n + 1) _ HL.out.1 HL.out.2).mono ?_
  rintro e W1 ⟨v, rfl, hv, hb1⟩
  obtain ⟨o, c', rfl⟩ := hv.open
  have HV := Lib.hid hv
  have HB := Lib.hid hb1
  clear hv hb1 hand
  go_wp2_with fail
  go_returns
  refine ⟨_, by simp; rfl, ?_, bgo (bgoAlloc (Below.refl _ _) _) HB.out⟩
  rw [HQ.out]
  exact HV.out

set_option maxHeartbeats 1000000 in
theorem narrower_any (a b : List Rng) (v u : Value) (w : World) (hv : PairsAt w v a) (hu : PairsAt w u b) : Calls Try.prog 45 #[v, u] w (PV (.bool (narrowerB a b)) w) := by
  obtain ⟨o, c, rfl⟩ := hv.open
  obtain ⟨o2, c2, rfl⟩ := hu.open
  have hl1 := hv.len
  have hl2 := hu.len
  obtain ⟨q, hq⟩ : ∃ q, narrowerB a b = q := ⟨_, rfl⟩
  rw [hq]
  have HQ := Lib.hid hq
  have HV := Lib.hid hv
  have HU := Lib.hid hu
  clear hv hu hq
  by_cases hlen : a.length = b.length
  case neg =>
    have hb : ((a.length : Int) != (b.length : Int)) = true := by simp; omega
    obtain rfl : q = false := by rw [← HQ.out]; simp [narrowerB, hlen]
    clear hlen
    go_enter Try.func45, Try.ntmps45
    go_wp2_with fail
    go_returns
    exact ⟨by simp, Below.refl _ _⟩
  have hb : ((a.length : Int) != (b.length : Int)) = false := by simp [hlen]
  have HLE := Lib.hid hlen
  clear hlen
  go_enter Try.func45, Try.ntmps45
  go_wp2_with fail
  go_loopw [5] (fun u wr => ∃ k : Nat, k ≤ a.length ∧ u = .int .i64 k ∧ Below w.heap.size w wr ∧ ∀ j, j < k → insideB (a.getD j (0, 0)) (b.getD j (0, 0)) = true) (fun u _ => a.length - (intOf u).toNat)
  case atStart => exact ⟨0, Nat.zero_le _, rfl, Below.refl _ _, fun j hj => by omega⟩
  case round =>
    obtain ⟨k, hk, rfl, hB, hno⟩ := hrel
    have HN := Lib.hid hno
    clear hno
    by_cases hlt : k < a.length
    · have hlm : k < b.length := by have := HLE.out; omega
      obtain ⟨b1, off, rfl, hb1, d1, d2⟩ := PairsAt.cell (HV.out.below hB (Nat.le_refl _)) hlt
      obtain ⟨b2, off', rfl, hb2, d3, d4⟩ := PairsAt.cell (HU.out.below hB (Nat.le_refl _)) hlm
      have hltI : (k : Int) < a.length := by omega
      have hlmI : (k : Int) < b.length := by omega
      have g1 : a.getD k (0, 0) = a[k] := by simp [List.getD, hlt]
      have g2 : b.getD k (0, 0) = b[k] := by simp [List.getD, hlm]
      generalize a[k] = x at *
      generalize b[k] = y at *
      have HG := Lib.hid (And.intro g1 g2)
      have HB := Lib.hid hB
      clear g1 g2 hB
      cases hi : insideB x y
      · obtain rfl : q = false := by
          rw [← HQ.out]
          simp only [narrowerB, Bool.and_eq_false_iff]
          right
          rw [List.all_eq_false]
          exact ⟨k, by simpa using hlt, by rw [HG.out.1, HG.out.2, hi]; simp⟩
        go_wp2_with fail
        refine wp_region_rg 10 [] none [(8, Spec.val (.bool false))] (by kernel_rfl) (by kernel_rfl) ?_
        simp only [List.take_succ_cons, List.take_zero, List.drop_succ_cons, List.drop_zero]
        repeat (first | (refine tree_det (by rfl) _ (by rfl) (fun W hW => by go_simp; (try simp (disch := omega) only [IntWalk.i64_in]); try rfl) ?_; simp only [Act.put, List.setIfInBounds_toArray, List.set_cons_succ, List.set_cons_zero]) | (refine tree_skip (by rfl) (by rfl) ?_; simp only [Act.put, List.setIfInBounds_toArray, List.set_cons_succ, List.set_cons_zero]))
        refine tree_val _ (by rfl) (by rfl) 87 _ (fun W hW => by go_simp; try rfl) (fun W hE hF => by exact by have := inside_any x y W; rw [hi] at this; exact this) ?_
        simp only [Act.put, List.setIfInBounds_toArray, List.set_cons_succ, List.set_cons_zero]
        repeat (first | (refine tree_det (by rfl) _ (by rfl) (fun W hW => by go_simp; (try simp (disch := omega) only [IntWalk.i64_in]); try rfl) ?_; simp only [Act.put, List.setIfInBounds_toArray, List.set_cons_succ, List.set_cons_zero]) | (refine tree_skip (by rfl) (by rfl) ?_; simp only [Act.put, List.setIfInBounds_toArray, List.set_cons_succ, List.set_cons_zero]))
        intro W hE hF
        obtain ⟨hc, hf⟩ := bcell hE.below
        have hzE := hE.size
        (try simp only [World.size_alloc] at hzE)
        have HE := Lib.hid hE
        clear hE hF
        go_wp2_with fail
        go_returns
        exact ⟨by simp, bgo HB.out HE.out.below⟩
      · go_wp2_with fail
        refine wp_region_rg 10 [] none [(8, Spec.val (.bool true))] (by kernel_rfl) (by kernel_rfl) ?_
        simp only [List.take_succ_cons, List.take_zero, List.drop_succ_cons, List.drop_zero]
        repeat (first | (refine tree_det (by rfl) _ (by rfl) (fun W hW => by go_simp; (try simp (disch := omega) only [IntWalk.i64_in]); try rfl) ?_; simp only [Act.put, List.setIfInBounds_toArray, List.set_cons_succ, List.set_cons_zero]) | (refine tree_skip (by rfl) (by rfl) ?_; simp only [Act.put, List.setIfInBounds_toArray, List.set_cons_succ, List.set_cons_zero]))
        refine tree_val _ (by rfl) (by rfl) 87 _ (fun W hW => by go_simp; try rfl) (fun W hE hF => by exact by have := inside_any x y W; rw [hi] at this; exact this) ?_
        simp only [Act.put, List.setIfInBounds_toArray, List.set_cons_succ, List.set_cons_zero]
        repeat (first | (refine tree_det (by rfl) _ (by rfl) (fun W hW => by go_simp; (try simp (disch := omega) only [IntWalk.i64_in]); try rfl) ?_; simp only [Act.put, List.setIfInBounds_toArray, List.set_cons_succ, List.set_cons_zero]) | (refine tree_skip (by rfl) (by rfl) ?_; simp only [Act.put, List.setIfInBounds_toArray, List.set_cons_succ, List.set_cons_zero]))
        intro W hE hF
        obtain ⟨hc, hf⟩ := bcell hE.below
        have hzE := hE.size
        (try simp only [World.size_alloc] at hzE)
        have HE := Lib.hid hE
        clear hE hF
        go_wp2_with fail
        go_roundw
        case rel =>
          refine ⟨k + 1, by omega, by go_num, bgo HB.out HE.out.below, fun j hj => ?_⟩
          by_cases e : j = k
          · subst e; rw [HG.out.1, HG.out.2]; exact hi
          · exact HN.out j (by omega)
        case measure => simp [intOf]; omega
    · have hkl : k = a.length := by omega
      obtain rfl : q = true := by
        rw [← HQ.out]
        simp only [narrowerB, Bool.and_eq_true, decide_eq_true_eq, List.all_eq_true, List.mem_range]
        exact ⟨HLE.out, fun j hj => HN.out j (by omega)⟩
      have HB := Lib.hid hB
      clear hB
      go_wp2_with fail
      go_returns
      exact ⟨by simp, HB.out⟩

def neededV (h : HeapD) : Int := if fewErr h = 10 then 100 else if fewErr h ≠ 0 then -1 else ((fewL h).length : Int)
theorem needed_any (h : HeapD) (wv tv xv' : Value) (w : World) (hw : PairsAt w wv h.wet) (ht : IntsAt w tv h.turns) (hx : TriplesAt w xv' h.readings) (hlw : h.wet.length ≤ 1000) (hlt : h.turns.length ≤ 1000) (hlx : h.readings.length ≤ 1000) :
    Calls Try.prog 44 #[hv h wv tv xv'] w (PV (iv (neededV h)) w) := by
  obtain ⟨ow, cw, rfl⟩ := hw.open
  obtain ⟨ot, ct, rfl⟩ := ht.open
  obtain ⟨ox, cx, rfl⟩ := hx.open
  have HW := Lib.hid hw
  have HT := Lib.hid ht
  have HX := Lib.hid hx
  clear hw ht hx
  have HB0 := Lib.hid (Below.refl (w.alloc (.cells #[.int .i64 h.last, .int .i64 h.size, .int .i64 h.cool, .int .i64 h.die, .int .i64 h.burn, .int .i64 h.start.1, .int .i64 h.start.2, .slice ow h.wet.length cw, .slice ot h.turns.length ct, .slice ox h.readings.length cx] 28)).heap.size (w.alloc (.cells #[.int .i64 h.last, .int .i64 h.size, .int .i64 h.cool, .int .i64 h.die, .int .i64 h.burn, .int .i64 h.start.1, .int .i64 h.start.2, .slice ow h.wet.length cw, .slice ot h.turns.length ct, .slice ox h.readings.length cx] 28)))
  obtain ⟨q, hq⟩ : ∃ q, neededV h = q := ⟨_, rfl⟩
  rw [hq]
  have HQ := Lib.hid hq
  obtain ⟨E, hE⟩ : ∃ E, fewErr h = E := ⟨_, rfl⟩
  have HE := Lib.hid hE
  clear hq hE
  by_cases h10 : E = 10
  · obtain rfl : q = 100 := by rw [← HQ.out]; unfold neededV; rw [HE.out, if_pos h10]
    subst h10
    go_enter Try.func44, Try.ntmps44
    go_wp2_with fail
    refine (Heap_any h _ _ _ _ ((HW.out.alloc _).below HB0.out (Nat.le_refl _)) ((HT.out.alloc _).below HB0.out (Nat.le_refl _)) ((HX.out.alloc _).below HB0.out (Nat.le_refl _)) (by omega) (by omega) (by omega)).mono ?_
    rintro e W1 ⟨a1, b1, c1, rfl, h1, h2, h3, hb⟩
    (try clear hcr hsr)
    have HD1 := Lib.hid hb
    have HB1 := Lib.hid (bgo HB0.out hb)
    obtain ⟨hcr, _, hsr⟩ := cells_of_block ((HB1.out.block w.heap.size (by simp)).trans (heap_new0 w _))
    clear hb
    have HH1 := Lib.hid (And.intro h1 (And.intro h2 h3))
    clear h1 h2 h3
    go_wp2_with fail
    refine (Fewest_any h _ _ _ _ HH1.out.1 HH1.out.2.1 HH1.out.2.2).mono ?_
    rw [HE.out]
    rintro e W2 ⟨v, rfl, hv, hb⟩
    obtain ⟨o, c', rfl⟩ := hv.open
    (try clear hcr hsr)
    have HD2 := Lib.hid hb
    have HB2 := Lib.hid (bgo HB1.out hb)
    obtain ⟨hcr, _, hsr⟩ := cells_of_block ((HB2.out.block w.heap.size (by simp)).trans (heap_new0 w _))
    clear hb
    clear hv
    go_wp2_with fail
    go_returns
    exact ⟨by simp, bgo (bgoAlloc (Below.refl _ _) _) HB2.out⟩
  · have h10b : (E == 10) = false := by simpa using h10
    by_cases h00 : E = 0
    · obtain rfl : q = ((fewL h).length : Int) := by rw [← HQ.out]; unfold neededV; rw [HE.out, if_neg h10, if_neg (by simp [h00])]
      subst h00
      clear h10 h10b
      go_enter Try.func44, Try.ntmps44
      go_wp2_with fail
      refine (Heap_any h _ _ _ _ ((HW.out.alloc _).below HB0.out (Nat.le_refl _)) ((HT.out.alloc _).below HB0.out (Nat.le_refl _)) ((HX.out.alloc _).below HB0.out (Nat.le_refl _)) (by omega) (by omega) (by omega)).mono ?_
      rintro e W1 ⟨a1, b1, c1, rfl, h1, h2, h3, hb⟩
      (try clear hcr hsr)
      have HD1 := Lib.hid hb
      have HB1 := Lib.hid (bgo HB0.out hb)
      obtain ⟨hcr, _, hsr⟩ := cells_of_block ((HB1.out.block w.heap.size (by simp)).trans (heap_new0 w _))
      clear hb
      have HH1 := Lib.hid (And.intro h1 (And.intro h2 h3))
      clear h1 h2 h3
      go_wp2_with fail
      refine (Fewest_any h _ _ _ _ HH1.out.1 HH1.out.2.1 HH1.out.2.2).mono ?_
      rw [HE.out]
      rintro e W2 ⟨v, rfl, hv, hb⟩
      obtain ⟨o, c', rfl⟩ := hv.open
      have hlv := hv.len
      (try clear hcr hsr)
      have HD2 := Lib.hid hb
      have HB2 := Lib.hid (bgo HB1.out hb)
      obtain ⟨hcr, _, hsr⟩ := cells_of_block ((HB2.out.block w.heap.size (by simp)).trans (heap_new0 w _))
      clear hb
      clear hv
      go_wp2_with fail
      go_returns
      exact ⟨by simp, bgo (bgoAlloc (Below.refl _ _) _) HB2.out⟩
    · obtain rfl : q = -1 := by rw [← HQ.out]; unfold neededV; rw [HE.out, if_neg h10, if_pos h00]
      have h00b : (E != 0) = true := by simpa using h00
      clear h10 h00
      go_enter Try.func44, Try.ntmps44
      go_wp2_with fail
      refine (Heap_any h _ _ _ _ ((HW.out.alloc _).below HB0.out (Nat.le_refl _)) ((HT.out.alloc _).below HB0.out (Nat.le_refl _)) ((HX.out.alloc _).below HB0.out (Nat.le_refl _)) (by omega) (by omega) (by omega)).mono ?_
      rintro e W1 ⟨a1, b1, c1, rfl, h1, h2, h3, hb⟩
      (try clear hcr hsr)
      have HD1 := Lib.hid hb
      have HB1 := Lib.hid (bgo HB0.out hb)
      obtain ⟨hcr, _, hsr⟩ := cells_of_block ((HB1.out.block w.heap.size (by simp)).trans (heap_new0 w _))
      clear hb
      have HH1 := Lib.hid (And.intro h1 (And.intro h2 h3))
      clear h1 h2 h3
      go_wp2_with fail
      refine (Fewest_any h _ _ _ _ HH1.out.1 HH1.out.2.1 HH1.out.2.2).mono ?_
      rw [HE.out]
      rintro e W2 ⟨v, rfl, hv, hb⟩
      obtain ⟨o, c', rfl⟩ := hv.open
      (try clear hcr hsr)
      have HD2 := Lib.hid hb
      have HB2 := Lib.hid (bgo HB1.out hb)
      obtain ⟨hcr, _, hsr⟩ := cells_of_block ((HB2.out.block w.heap.size (by simp)).trans (heap_new0 w _))
      clear hb
      clear hv
      go_wp2_with fail
      go_returns
      exact ⟨by simp, bgo (bgoAlloc (Below.refl _ _) _) HB2.out⟩

end Go.Proofs.Ytoibfafmnaooaaa

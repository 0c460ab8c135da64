/-
  Contracts of the law: Heap, some; of the reference: Full, Bits, Before, Shorter.
-/
import Derived.WalkKit
import Derived.WalkLawsBesides
import Derived.WalkSpells
import Derived.Outline
import Derived.Handy
import Derived.KernelRfl
import Derived.Lib.Hide
import Derived.Test.YtoibfafmnaooaaaR0
import Derived.Test.YtoibfafmnaooaaaW28
import Derived.Test.YtoibfafmnaooaaaW30
namespace Go.Proofs.Ytoibfafmnaooaaa
open Go.RowKit Go.RG Go.SL Go.Shelf Cou
set_option maxHeartbeats 400000
set_option maxRecDepth 10000

theorem tRanges4 : SliceT Try.prog 24 23 (rv (0, 0)) 2 16 := ⟨Try.underlying24, by kernel_rfl, rfl, by omega⟩
theorem tReadings4 : SliceT Try.prog 26 79 (xv (0, 0, 0)) 3 24 := ⟨Try.underlying26, by kernel_rfl, rfl, by omega⟩

theorem owns_ext' {w w' : World} {base : Nat} {e : TypeId} {size : Nat} {v : Value} {n : Nat} {xs : List Value} (h : w.ownsRow base e size v n xs) {Ms : List Nat} (hE : Ext Ms w w') (hM : ∀ x ∈ Ms, v.ownBlock ≠ some x) : w'.ownsRow base e size v n xs :=
  owns_keep h fun g hg => hE.block g (owns_ge h g hg).2 fun hm => hM g hm hg

/-- A heap by value that reads as h, in a world; nothing that was there has turned. -/
theorem Heap_any (h : HeapD) (wv tv xv' : Value) (w : World) (hw : PairsAt w wv h.wet) (ht : IntsAt w tv h.turns) (hx : TriplesAt w xv' h.readings) (hlw : h.wet.length ≤ 1000) (hlt : h.turns.length ≤ 1000) (hlx : h.readings.length ≤ 1000) :
    Calls Try.prog 21 #[hv h wv tv xv'] w (PHeap h w) := by
  obtain ⟨ow, cw, rfl⟩ := hw.open
  obtain ⟨ot, ct, rfl⟩ := ht.open
  obtain ⟨ox, cx, rfl⟩ := hx.open
  have HW := Lib.hid hw
  have HT := Lib.hid ht
  have HX := Lib.hid hx
  clear hw ht hx
  go_enter Try.func21, Try.ntmps21
  go_wp2_with fail
  refine gworld fun W1 hW1 => ?_
  have HB1 := Lib.hid (show Below w.heap.size w W1 from by rw [hW1]; exact (by repeat (first | exact Below.refl _ _ | assumption | refine bgo ?_ (by assumption) | refine bgoAlloc ?_ _ | refine bgoDrew ?_ | refine bgoSet ?_ (by simp; omega) _)))
  have hA0 : W1.heap[w.heap.size]? = some (.cells #[.int .i64 h.last, .int .i64 h.size, .int .i64 h.cool, .int .i64 h.die, .int .i64 h.burn, .int .i64 h.start.1, .int .i64 h.start.2, .slice ow h.wet.length cw, .slice ot h.turns.length ct, .slice ox h.readings.length cx] 28 (0, 0)) := by rw [hW1]; exact (Below.heap_alloc _ _ _ (by first | omega | (simp; done) | (simp; omega))).trans (heap_new0 _ _)
  have hA1 : W1.heap[w.heap.size + 1]? = some (.cells #[iv 0, iv 0, iv 0, iv 0, iv 0, iv 0, iv 0, .slice none 0 0, .slice none 0 0, .slice none 0 0] 40 (0, 0)) := by rw [hW1]; exact heap_new1 _ _ _
  have s0 := (Array.getElem?_eq_some_iff.1 hA0).1
  have s1 := (Array.getElem?_eq_some_iff.1 hA1).1
  have hcr := (cells_of_block hA0).1
  have HA := Lib.hid (And.intro hA0 hA1)
  clear hA0 hA1 hW1
  refine wp_region_rg 18 [] none [(12, Spec.val (rv h.start)), (15, ⟨fun _ v => ∃ o c, v = .slice o h.turns.length c, fun _ v Wx => Wx.ownsRow W1.heap.size 3 1 v h.turns.length (intCells h.turns)⟩), (17, Spec.block W1.heap.size #[iv 0, iv 0, iv 0, iv 0, iv 0, iv 0, iv 0, .slice none 0 0, .slice none 0 0, .slice none 0 0] 40)] (by kernel_rfl) (by kernel_rfl) ?_
  simp only [List.take_succ_cons, List.take_zero, List.drop_succ_cons, List.drop_zero]
  repeat (first | (refine tree_det (by rfl) _ (by rfl) (fun W hW => by go_simp; (try simp (disch := omega) only [IntWalk.i64_in]); try rfl) ?_; simp only [Act.put, List.setIfInBounds_toArray, List.set_cons_succ, List.set_cons_zero]) | (refine tree_skip (by rfl) (by rfl) ?_; simp only [Act.put, List.setIfInBounds_toArray, List.set_cons_succ, List.set_cons_zero]))
  refine tree_val _ (by rfl) (by rfl) 52 _ (fun W hW => by go_simp; try rfl) (fun W hE hF => by exact to_any h.start W) ?_
  simp only [Act.put, List.setIfInBounds_toArray, List.set_cons_succ, List.set_cons_zero]
  repeat (first | (refine tree_det (by rfl) _ (by rfl) (fun W hW => by go_simp; (try simp (disch := omega) only [IntWalk.i64_in]); try rfl) ?_; simp only [Act.put, List.setIfInBounds_toArray, List.set_cons_succ, List.set_cons_zero]) | (refine tree_skip (by rfl) (by rfl) ?_; simp only [Act.put, List.setIfInBounds_toArray, List.set_cons_succ, List.set_cons_zero]))
  refine tree_some _ (by rfl) (by rfl) (by exact ⟨.slice none (h.turns).length 0, none, 0, rfl⟩) (fun W hE hF => ?_) (fun v Wa Wb ho hE => owns_ext (Ms := []) ho hE (by simp)) (fun v hv => ?_)
  · have hE' : Ext [] W1 W := hE
    refine does_enter 22 #[.slice ot h.turns.length ct] (by go_simp; try rfl) ?_
    refine (list_any (h.turns) _ W ((HT.out.below HB1.out (Nat.le_refl _)).below hE'.below (Nat.le_refl _)) (by omega)).mono ?_
    rintro e W6 ⟨v, rfl, ho, hb⟩
    exact ⟨v, rfl, owns_slice ho, owns_base ho hE'.size, Ext.of_below hb⟩
  obtain ⟨o5, c5, rfl⟩ := hv
  simp only [Act.put, List.setIfInBounds_toArray, List.set_cons_succ, List.set_cons_zero]
  repeat (first | (refine tree_det (by rfl) _ (by rfl) (fun W hW => by go_simp; (try simp (disch := omega) only [IntWalk.i64_in]); try rfl) ?_; simp only [Act.put, List.setIfInBounds_toArray, List.set_cons_succ, List.set_cons_zero]) | (refine tree_skip (by rfl) (by rfl) ?_; simp only [Act.put, List.setIfInBounds_toArray, List.set_cons_succ, List.set_cons_zero]))
  refine tree_block W1.heap.size _ _ (by rfl) (Nat.le_refl _) (by rfl) (by simp) (by simp) (fun W hW => by go_simp; try rfl) (fun b3 => ?_)
  simp only [Act.put, List.setIfInBounds_toArray, List.set_cons_succ, List.set_cons_zero]
  intro W2 hE hF
  have hE' : Ext [] W1 W2 := hE
  obtain ⟨b3', hb3, hbB, hblk⟩ := hF _ (List.Mem.head _)
  cases hb3
  have hown : W2.ownsRow W1.heap.size 3 1 (.slice o5 h.turns.length c5) h.turns.length (intCells h.turns) := hF _ (List.Mem.tail _ (List.Mem.head _))
  obtain ⟨ys, hys⟩ : ∃ ys : List Value, ys = [iv h.last, iv h.size, iv h.cool, iv h.die, iv h.burn, iv h.start.1, iv h.start.2, .slice none 0 0, .slice o5 h.turns.length c5, .slice none 0 0] := ⟨_, rfl⟩
  have eys : #[iv h.last, iv h.size, iv h.cool, iv h.die, iv h.burn, iv h.start.1, iv h.start.2, .slice none 0 0, .slice o5 h.turns.length c5, .slice none 0 0] = ys.toArray := by rw [hys]
  have hyl : ys.length = 10 := by rw [hys]; rfl
  obtain ⟨W3, hst, hblk3, hE3⟩ := store_vals Try.prog ys (by rw [hys]; intro u hu; simp at hu; rcases hu with rfl | rfl | rfl | rfl | rfl | rfl | rfl | rfl | rfl | rfl <;> rfl) hblk (by rw [hyl]; rfl)
  have hb3 : w.heap.size + 2 ≤ b3 := by omega
  have hbl := (Array.getElem?_eq_some_iff.1 hblk).1
  have hz3 := hE3.size
  have hz2 := hE'.size
  have hA03 : W3.heap[w.heap.size]? = some (.cells #[.int .i64 h.last, .int .i64 h.size, .int .i64 h.cool, .int .i64 h.die, .int .i64 h.burn, .int .i64 h.start.1, .int .i64 h.start.2, .slice ow h.wet.length cw, .slice ot h.turns.length ct, .slice ox h.readings.length cx] 28 (0, 0)) := (hE3.block _ (by omega) (by simp; omega)).trans ((hE'.block _ s0 (by simp)).trans HA.out.1)
  have hA13 : W3.heap[w.heap.size + 1]? = some (.cells #[iv 0, iv 0, iv 0, iv 0, iv 0, iv 0, iv 0, .slice none 0 0, .slice none 0 0, .slice none 0 0] 40 (0, 0)) := (hE3.block _ (by omega) (by simp; omega)).trans ((hE'.block _ s1 (by simp)).trans HA.out.2)
  have hB3 : Below w.heap.size w W3 := below_of_ext (bgo HB1.out hE'.below) hE3 (by omega)
  have hne : ∀ g, (Value.slice o5 h.turns.length c5).ownBlock = some g → g ≠ b3 := fun g hg e => by
    subst e
    obtain ⟨_, ⟨h1, _⟩ | ⟨g', c, cs, h1, _, h2, _⟩⟩ := hown
    · rw [h1] at hg; cases hg
    · rw [h1] at hg
      have : g' = g := by simpa [Value.ownBlock] using hg
      subst this
      rw [h2] at hblk
      simp at hblk
  have hown3 := owns_ext' hown hE3 (fun x hx => by simp at hx; subst hx; exact fun e => hne _ e rfl)
  have HT3 := Lib.hid (show _ ∧ _ from And.intro (SlAt.of_owns hown3) (fun g hg => And.intro (owns_ge hown3 g hg).2 (And.intro (hne g hg) (show w.heap.size + 2 ≤ g from by have := (owns_ge hown3 g hg).1; omega))))
  have hblk3' : W3.heap[b3]? = some (.cells #[iv h.last, iv h.size, iv h.cool, iv h.die, iv h.burn, iv h.start.1, iv h.start.2, .slice none 0 0, .slice o5 h.turns.length c5, .slice none 0 0] 40 (0, 0)) := by rw [eys]; exact hblk3
  rw [eys]
  have hbb : b3 < W3.heap.size := by omega
  have hW3 : w.heap.size + 2 < W3.heap.size := by omega
  have HA3 := Lib.hid (And.intro hA03 (And.intro hA13 hblk3'))
  have HB3 := Lib.hid hB3
  clear hys eys hE hF hE' hblk hown hblk3 hE3 hA03 hA13 hB3 hne hown3 hblk3' hcr s0 s1 hz2 hz3 hbl
  go_wp2_with fail
  clear hst
  go_loopw [4] (fun u wr => ∃ k : Nat, k ≤ h.wet.length ∧ u = .int .i64 k ∧ ∃ oo oc, wr.heap[b3]? = some (.cells #[iv h.last, iv h.size, iv h.cool, iv h.die, iv h.burn, iv h.start.1, iv h.start.2, .slice oo k oc, .slice o5 h.turns.length c5, .slice none 0 0] 40 (0, 0)) ∧
      wr.ownsRow W3.heap.size 36 2 (.slice oo k oc) k (pairCells (h.wet.take k)) ∧ Below w.heap.size w wr ∧ W3.heap.size ≤ wr.heap.size ∧ ∀ c, c < W3.heap.size → c ≠ b3 → wr.heap[c]? = W3.heap[c]?) (fun u _ => h.wet.length - (intOf u).toNat)
  case atStart => exact ⟨0, Nat.zero_le _, rfl, none, 0, HA3.out.2.2, ⟨rfl, .inl ⟨rfl, rfl⟩⟩, HB3.out, Nat.le_refl _, fun _ _ _ => rfl⟩
  case round =>
    obtain ⟨k, hk, rfl, oo, oc, hblk, hown, hB, hsw, hkeep⟩ := hrel
    obtain ⟨hcr0, _, hsr0⟩ := cells_of_block ((hkeep w.heap.size (by omega) (by omega)).trans HA3.out.1)
    obtain ⟨hcr2, hfr2, hsr2⟩ := cells_of_block hblk
    have hHW := HW.out.below hB (Nat.le_refl _)
    have HK := Lib.hid (And.intro hblk (And.intro hown (And.intro hB (And.intro hsw hkeep))))
    clear hblk hown hB hsw hkeep
    by_cases hlk : k < h.wet.length
    · obtain ⟨b, off, rfl, hb1, d1, d2⟩ := PairsAt.cell hHW hlk
      have hltI : (k : Int) < h.wet.length := by omega
      have htk : pairCells (h.wet.take (k + 1)) = pairCells (h.wet.take k) ++ pairCells [h.wet[k]] := by
        rw [List.take_succ_eq_append_getElem hlk, pairCells_snoc]
      clear hHW
      generalize h.wet[k] = x at *
      have HTK := Lib.hid htk
      clear htk
      go_wp2_with fail
      refine wp_region_rg 9 [] none [(7, Spec.val (rv x)), (8, Spec.slice wr.heap.size #[iv x.1, iv x.2] 36 1)] (by kernel_rfl) (by kernel_rfl) ?_
      simp only [List.take_succ_cons, List.take_zero, List.drop_succ_cons, List.drop_zero]
      repeat (first | (refine tree_det (by rfl) _ (by rfl) (fun W hW => by go_simp; (try simp (disch := omega) only [IntWalk.i64_in]); try rfl) ?_; simp only [Act.put, List.setIfInBounds_toArray, List.set_cons_succ, List.set_cons_zero]) | (refine tree_skip (by rfl) (by rfl) ?_; simp only [Act.put, List.setIfInBounds_toArray, List.set_cons_succ, List.set_cons_zero]))
      refine tree_val _ (by rfl) (by rfl) 52 _ (fun W hW => by go_simp; try rfl) (fun W hE hF => by exact to_any x W) ?_
      simp only [Act.put, List.setIfInBounds_toArray, List.set_cons_succ, List.set_cons_zero]
      refine tree_slice wr.heap.size _ _ _ (by rfl) (Nat.le_refl _) (by rfl) (by simp) (by simp) (fun W hW => by go_simp; try rfl) (fun b8 => ?_)
      simp only [Act.put, List.setIfInBounds_toArray, List.set_cons_succ, List.set_cons_zero]
      intro W5 hE5 hF5
      have hE5' : Ext [] wr W5 := hE5
      obtain ⟨b8', hb8, hbB8, hblk8⟩ := hF5 _ (List.Mem.head _)
      cases hb8
      have HE5 := Lib.hid hE5'
      have HBK := Lib.hid hblk8
      have HOW5 := Lib.hid (owns_ext (Ms := []) HK.out.2.1 hE5' (by simp))
      have hz5 := hE5'.size
      have hsw := HK.out.2.2.2.1
      clear hE5 hF5 hE5' hblk8
      go_wp2_with (at_builtin; go_loud (refine wpList_append_at rfl _ _ tPairs rfl W3.heap.size (.slice oo k oc) k (pairCells (h.wet.take k)) rfl HOW5.out (.slice (some ⟨b8, 0, none⟩) 1 1) 1 (pairCells [x]) rfl (SlAt.of_block 2 1 HBK.out rfl (by decide)) (one_pairs _) (by omega) (by omega) (by omega) ?_))
      intro v' W6 hown6 hgr6 _
      obtain ⟨o6, c6, rfl⟩ := owns_slice hown6
      have HP := Lib.hid (ap_push (i := 7) (u := .slice o6 (k + 1) c6) HK.out.2.2.1 HK.out.2.1 HE5.out hown6 hgr6 hsw hbb (by omega) HK.out.1)
      obtain ⟨hcr6, hfr6, hsr6⟩ := cells_of_block (((ap_push0 HK.out.2.2.1 HK.out.2.1 HE5.out hown6 hgr6 (by omega) hsw).2.2 b3 hbb).trans HK.out.1)
      clear hown6 hgr6
      go_wp2_with fail
      go_roundw
      case rel =>
        refine ⟨k + 1, by omega, by go_num, o6, c6, ?_⟩
        rw [HTK.out]
        exact ⟨HP.out.2.2.2.1, HP.out.2.2.1, HP.out.1, HP.out.2.1, fun c hc hne => (HP.out.2.2.2.2 c hc hne).trans (HK.out.2.2.2.2 c hc hne)⟩
      case measure => simp [intOf]; omega
    · obtain rfl : k = h.wet.length := by omega
      have HWT := Lib.hid (show wr.ownsRow W3.heap.size 36 2 (.slice oo h.wet.length oc) h.wet.length (pairCells h.wet) from by have := HK.out.2.1; rwa [List.take_length] at this)
      clear hHW hcr2 hfr2
      go_wp2_with fail
      clear hcr0
      have HA4 := Lib.hid (show wr.heap[w.heap.size]? = _ ∧ wr.heap[w.heap.size + 1]? = _ ∧ SlAt 1 wr (.slice o5 h.turns.length c5) h.turns.length (intCells h.turns) ∧ (∀ g, (Value.slice o5 h.turns.length c5).ownBlock = some g → g < wr.heap.size ∧ g ≠ b3 ∧ w.heap.size + 2 ≤ g) from
        ⟨(HK.out.2.2.2.2 w.heap.size (by omega) (by omega)).trans HA3.out.1, (HK.out.2.2.2.2 (w.heap.size + 1) (by omega) (by omega)).trans HA3.out.2.1,
          HT3.out.1.kept (fun b off n c hv _ => HK.out.2.2.2.2 b (HT3.out.2 b (by rw [hv]; rfl)).1 (HT3.out.2 b (by rw [hv]; rfl)).2.1), fun g hg => ⟨by have := (HT3.out.2 g hg).1; have := HK.out.2.2.2.1; omega, (HT3.out.2 g hg).2⟩⟩)
      have HWN := Lib.hid (show ∀ g, (Value.slice oo h.wet.length oc).ownBlock = some g → g < wr.heap.size ∧ g ≠ b3 from fun g hg => ⟨(owns_ge HWT.out g hg).2, by have := (owns_ge HWT.out g hg).1; omega⟩)
      have HK4 := Lib.hid (show wr.heap[b3]? = _ ∧ Below w.heap.size w wr from ⟨HK.out.1, HK.out.2.2.1⟩)
      have hb4 : b3 < wr.heap.size := by have := HK.out.2.2.2.1; omega
      clear HA3 HT3 HB3 HK hsr0 hsr2 hlk hk hbb
      obtain ⟨W4, rfl⟩ : ∃ W4 : World, W4 = wr := ⟨_, rfl⟩
      go_loopw [5] (fun u wq => ∃ k : Nat, k ≤ h.readings.length ∧ u = .int .i64 k ∧ ∃ o2 c2, wq.heap[b3]? = some (.cells #[iv h.last, iv h.size, iv h.cool, iv h.die, iv h.burn, iv h.start.1, iv h.start.2, .slice oo h.wet.length oc, .slice o5 h.turns.length c5, .slice o2 k c2] 40 (0, 0)) ∧
          wq.ownsRow W4.heap.size 104 3 (.slice o2 k c2) k (tripleCells (h.readings.take k)) ∧ Below w.heap.size w wq ∧ W4.heap.size ≤ wq.heap.size ∧ ∀ c, c < W4.heap.size → c ≠ b3 → wq.heap[c]? = W4.heap[c]?) (fun u _ => h.readings.length - (intOf u).toNat)
      case atStart => exact ⟨0, Nat.zero_le _, rfl, none, 0, HK4.out.1, ⟨rfl, .inl ⟨rfl, rfl⟩⟩, HK4.out.2, Nat.le_refl _, fun _ _ _ => rfl⟩
      case round =>
        obtain ⟨k, hk, rfl, o2, c2, hblk, hown, hB, hsw, hkeep⟩ := hrel
        obtain ⟨hcr0, _, hsr0⟩ := cells_of_block ((hkeep w.heap.size (by omega) (by omega)).trans HA4.out.1)
        obtain ⟨hcr2, hfr2, hsr2⟩ := cells_of_block hblk
        have hHX := HX.out.below hB (Nat.le_refl _)
        have HK := Lib.hid (And.intro hblk (And.intro hown (And.intro hB (And.intro hsw hkeep))))
        clear hblk hown hB hsw hkeep
        by_cases hlk : k < h.readings.length
        · obtain ⟨b, off, rfl, hb1, d1, d2, d3⟩ := TriplesAt.cell hHX hlk
          have hltI : (k : Int) < h.readings.length := by omega
          have htk : tripleCells (h.readings.take (k + 1)) = tripleCells (h.readings.take k) ++ tripleCells [h.readings[k]] := by
            rw [List.take_succ_eq_append_getElem hlk, tripleCells_snoc]
          clear hHX
          generalize h.readings[k] = x at *
          have HTK := Lib.hid htk
          clear htk
          have HE5 := Lib.hid (show Ext [] wr ((wr.alloc (.cells #[iv x.1, iv x.2.1, iv x.2.2] 79)).alloc (.cells #[iv x.1, iv x.2.1, iv x.2.2] 104)) from Ext.of_below (((Below.refl _ _).alloc (Nat.le_refl _) _).alloc (by simp) _))
          have HOW5 := Lib.hid (owns_ext (Ms := []) HK.out.2.1 HE5.out (by simp))
          have hsw := HK.out.2.2.2.1
          go_wp2_with (at_builtin; go_loud (refine wpList_append_at rfl _ _ tTriples rfl W4.heap.size (.slice o2 k c2) k (tripleCells (h.readings.take k)) rfl HOW5.out (.slice (some ⟨wr.heap.size + 1, 0, none⟩) 1 1) 1 (tripleCells [x]) rfl (SlAt.of_block 3 1 (heap_new1 _ _ _) rfl (by decide)) (one_triples _) (by omega) (by omega) (by simp; omega) ?_))
          intro v' W6 hown6 hgr6 _
          obtain ⟨o6, c6, rfl⟩ := owns_slice hown6
          have HP := Lib.hid (ap_push (i := 9) (u := .slice o6 (k + 1) c6) HK.out.2.2.1 HK.out.2.1 HE5.out hown6 hgr6 hsw hb4 (by omega) HK.out.1)
          obtain ⟨hcr6, hfr6, hsr6⟩ := cells_of_block (((ap_push0 HK.out.2.2.1 HK.out.2.1 HE5.out hown6 hgr6 (by omega) hsw).2.2 b3 hb4).trans HK.out.1)
          clear hown6 hgr6
          go_wp2_with fail
          go_roundw
          case rel =>
            refine ⟨k + 1, by omega, by go_num, o6, c6, ?_⟩
            rw [HTK.out]
            exact ⟨HP.out.2.2.2.1, HP.out.2.2.1, HP.out.1, HP.out.2.1, fun c hc hne => (HP.out.2.2.2.2 c hc hne).trans (HK.out.2.2.2.2 c hc hne)⟩
          case measure => simp [intOf]; omega
        · obtain rfl : k = h.readings.length := by omega
          clear hHX
          have hres := (HK.out.2.2.2.2 (w.heap.size + 1) (by omega) (by omega)).trans HA4.out.2.1
          obtain ⟨hcr1, hfr1, hsr1⟩ := cells_of_block hres
          have HRES := Lib.hid hres
          clear hres
          go_wp2_with fail
          refine bodyPost_ret (v := hv h (.slice oo h.wet.length oc) (.slice o5 h.turns.length c5) (.slice o2 h.readings.length c2)) (results_cell_row Try.results21 _ _ (w.heap.size + 1) _ _ (0, 0) _ rfl (set_ten HRES.out _ _ _ _ _ _ _ _ _ _) Try.underlying40 rfl (by kernel_rfl)) rfl ?_
          refine ⟨_, _, _, rfl, ?_, ?_, ?_, ten_below (by omega) HK.out.2.2.1 _ _ _ _ _ _ _ _ _ _⟩
          · refine (SlAt.of_owns HWT.out).kept fun b off n c hv _ => ?_
            have hg := HWN.out b (by rw [hv]; rfl)
            have hge := (owns_ge HWT.out b (by rw [hv]; rfl)).1
            exact (ten_other (by omega) _ _ _ _ _ _ _ _ _ _).trans (HK.out.2.2.2.2 b hg.1 hg.2)
          · refine HA4.out.2.2.1.kept fun b off n c hv _ => ?_
            have hg := HA4.out.2.2.2 b (by rw [hv]; rfl)
            exact (ten_other (by have := hg.2.2; omega) _ _ _ _ _ _ _ _ _ _).trans (HK.out.2.2.2.2 b hg.1 hg.2.1)
          · have := HK.out.2.1
            rw [List.take_length] at this
            refine SlAt.of_owns (owns_keep this fun g hg => ten_other ?_ _ _ _ _ _ _ _ _ _ _)
            have := (owns_ge HK.out.2.1 g hg).1
            omega

end Go.Proofs.Ytoibfafmnaooaaa

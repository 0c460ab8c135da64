/-
  Contracts of the reference: Nth. The plain laws of chapter 4, fourth part: which readings are right in each truth, by bits. No program in sight. Contracts of the reference: All, Can. Contracts of the reference: Can, First, Leave. Contract of the reference: Leave.
  Contract of the reference: Truths. The plain law: they are the heap's truths.
-/
import Derived.WalkKit
import Derived.WalkLawsBesides
import Derived.WalkSpells
import Derived.Outline
import Derived.Handy
import Derived.KernelRfl
import Derived.Lib.Hide
import Derived.Test.YtoibfafmnaooaaaSB
import Derived.Test.YtoibfafmnaooaaaSR
import Derived.Test.YtoibfafmnaooaaaMA
namespace Go.Proofs.Ytoibfafmnaooaaa
open Go.RowKit Go.RG Go.SL Go.Shelf Cou
set_option maxHeartbeats 400000
set_option maxRecDepth 10000

theorem ext_grown_ms {w w' : World} {row : Option Nat} {Ms : List Nat} (h : w.grownBy w' row) (hM : ∀ x, row = some x → x ∈ Ms) : Ext Ms w w' :=
  ⟨h.os, h.tape, h.output, h.size, fun k hk hm => h.block k hk (fun e => hm (hM k e.symm))⟩

theorem ap_push2 {w W W6 : World} {base size n' b i : Nat} {Ms : List Nat} {e t : TypeId} {v' u : Value} {xs' : List Value} {cs : Array Value} (hB : Below w.heap.size w W) (hE : Ext Ms W W6) (hMs : ∀ x ∈ Ms, base ≤ x)
    (hown6 : W6.ownsRow base e size v' n' xs') (hsz : base ≤ W.heap.size) (hbb : b < base) (hwb : w.heap.size ≤ b) (hblk : W.heap[b]? = some (.cells cs t (0, 0))) :
    Below w.heap.size w (W6.setCell ⟨b, i, none⟩ u) ∧ base ≤ (W6.setCell ⟨b, i, none⟩ u).heap.size ∧ (W6.setCell ⟨b, i, none⟩ u).ownsRow base e size v' n' xs' ∧
      (W6.setCell ⟨b, i, none⟩ u).heap[b]? = some (.cells (cs.setIfInBounds i u) t (0, 0)) ∧ ∀ c, c < base → c ≠ b → (W6.setCell ⟨b, i, none⟩ u).heap[c]? = W.heap[c]? := by
  have hk : ∀ c, c < base → W6.heap[c]? = W.heap[c]? := fun c hc => hE.block c (by omega) (fun hm => by have := hMs c hm; omega)
  have h6 := hE.size
  have h1 : Below w.heap.size w W6 := ⟨hE.os.trans hB.os, hE.tape.trans hB.tape, hE.output.trans hB.output, by have := hB.size; omega, fun c hc => (hk c (by omega)).trans (hB.block c hc)⟩
  refine ⟨h1.setCell hwb u, by simp [World.setCell]; omega, owns_ext (Ms := [b]) hown6 (ext_set W6 ⟨b, i, none⟩ u) (by simpa using hbb), set_block ((hk b hbb).trans hblk) u, fun c hc hne => ?_⟩
  exact (Below.heap_setCell _ _ _ _ hne).trans (hk c hc)

/-- The first elements of a slice of the call's own. -/
theorem owns_prefix {w : World} {base : Nat} {e : TypeId} {size : Nat} {o : Option Addr} {n m c : Nat} {xs news : List Value} (h : w.ownsRow base e size (.slice o (n + m) c) (n + m) (xs ++ news)) (hl : xs.length = n * size) (hn : 0 < n + m) :
    w.ownsRow base e size (.slice o n c) n xs := by
  obtain ⟨h1, ⟨h2, h3⟩ | ⟨g, cap, cur, h2, h3, h4, h5, h6, h7, h8⟩⟩ := h
  · injection h2; omega
  · injection h2 with e1 e2 e3
    subst e1 e3
    refine ⟨hl, .inr ⟨g, _, cur, rfl, h3, h4, by omega, h6, h7, ?_⟩⟩
    have := congrArg (List.take (n * size)) h8
    rw [List.take_take, Nat.min_eq_left (Nat.mul_le_mul_right _ (by omega)), ← hl, List.take_left] at this
    rw [← hl]
    exact this

/-- It returns a truth that reads so, its list in a block of its own; nothing that was there has turned. -/
def POwnT (t : Int × List Int) (w : World) (e : Ending) (w' : World) : Prop := ∃ v, e = .returned (.agg #[iv t.1, v]) ∧ w'.ownsRow w.heap.size 3 1 v t.2.length (intCells t.2) ∧ Below w.heap.size w w'

set_option maxHeartbeats 2000000 in
theorem Nth_any (h : HeapD) (wv : Value) (ob oc : Option Addr) (nb cb nc cc : Nat) (n : Int) (w : World) (hw : PairsAt w wv h.wet) (hR : RangesOk h) (hn0 : 0 ≤ n) (hn1 : n ≤ 100000) (hlw : h.wet.length ≤ 1000) :
    Calls Try.prog 38 #[hv h wv (.slice ob nb cb) (.slice oc nc cc), iv n] w (POwnT (nthT h n) w) := by
  obtain ⟨ow, cw, rfl⟩ := hw.open
  have HW := Lib.hid hw
  have HR := Lib.hid hR
  obtain ⟨h01, h02, h03⟩ := hR.start
  obtain ⟨hz1, hz2⟩ := hR.sz0
  obtain ⟨s, hs⟩ : ∃ s, sizeR h.start = s := ⟨_, rfl⟩
  rw [hs] at hz1 hz2
  obtain ⟨t, ht⟩ : ∃ t, nthT h n = t := ⟨_, rfl⟩
  have HT : Hid (t.1 = h.start.1 + n % s ∧ t.2 = nthW h.wet (n / s)) := Lib.hid (by rw [← ht, ← hs]; exact ⟨rfl, rfl⟩)
  rw [ht]
  have HS := Lib.hid hs
  have hmod0 : 0 ≤ n % s := Int.emod_nonneg _ (by omega)
  have hmod1 : n % s < s := Int.emod_lt_of_pos _ (by omega)
  have hdiv0 : 0 ≤ n / s := Int.ediv_nonneg hn0 (by omega)
  have hdiv1 : n / s ≤ n := Int.ediv_le_self _ hn0
  have hs0 : ¬ s = 0 := by omega
  have hs0b : (s == 0) = false := by simpa using hs0
  clear hw hR hs ht
  go_enter Try.func38, Try.ntmps38
  go_wp2_with fail
  refine gworld fun W1 hW1 => ?_
  have HB1 := Lib.hid (show Below w.heap.size w W1 from by rw [hW1]; exact (by repeat (first | exact Below.refl _ _ | assumption | refine bgo ?_ (by assumption) | refine bgoAlloc ?_ _ | refine bgoDrew ?_ | refine bgoSet ?_ (by simp; omega) _)))
  have HX1 := Lib.hid (show W1.heap[w.heap.size]? = some (.cells #[iv h.last, iv h.size, iv h.cool, iv h.die, iv h.burn, iv h.start.1, iv h.start.2, .slice ow h.wet.length cw, .slice ob nb cb, .slice oc nc cc] 28 (0, 0)) from by rw [hW1]; exact (Below.heap_alloc _ _ _ (by first | omega | (simp; done) | (simp; omega))).trans (heap_new0 _ _))
  have HX2 := Lib.hid (show W1.heap[w.heap.size + 1]? = some (.cells #[iv 0, .slice none 0 0] 66 (0, 0)) from by rw [hW1]; exact heap_new1 _ _ _)
  obtain ⟨hc1, _, hs1⟩ := cells_of_block HX1.out
  have hs2 := (cells_of_block HX2.out).2.2
  clear hW1
  refine wp_region_rg 11 [] none [(6, Spec.val (iv s)), (10, Spec.block W1.heap.size #[iv 0, .slice none 0 0] 66)] (by kernel_rfl) (by kernel_rfl) ?_
  simp only [List.take_succ_cons, List.take_zero, List.drop_succ_cons, List.drop_zero]
  repeat (first | (refine tree_det (by rfl) _ (by rfl) (fun W hW => by go_simp; (try simp (disch := omega) only [IntWalk.i64_in, Int.tmod_eq_emod_of_nonneg]); try rfl) ?_; simp only [Act.put, List.setIfInBounds_toArray, List.set_cons_succ, List.set_cons_zero]) | (refine tree_skip (by rfl) (by rfl) ?_; simp only [Act.put, List.setIfInBounds_toArray, List.set_cons_succ, List.set_cons_zero]))
  refine tree_val _ (by rfl) (by rfl) 77 _ (fun W hW => by go_simp; try rfl) (fun W hE hF => by exact by have := Size_any h.start W h01 h02 (by omega); rw [HS.out] at this; exact this) ?_
  simp only [Act.put, List.setIfInBounds_toArray, List.set_cons_succ, List.set_cons_zero]
  repeat (first | (refine tree_det (by rfl) _ (by rfl) (fun W hW => by go_simp; (try simp (disch := omega) only [IntWalk.i64_in, Int.tmod_eq_emod_of_nonneg]); try rfl) ?_; simp only [Act.put, List.setIfInBounds_toArray, List.set_cons_succ, List.set_cons_zero]) | (refine tree_skip (by rfl) (by rfl) ?_; simp only [Act.put, List.setIfInBounds_toArray, List.set_cons_succ, List.set_cons_zero]))
  refine tree_block W1.heap.size _ _ (by rfl) (Nat.le_refl _) (by rfl) (by simp) (by simp) (fun W hW => by go_simp; try rfl) (fun b5 => ?_)
  simp only [Act.put, List.setIfInBounds_toArray, List.set_cons_succ, List.set_cons_zero]
  repeat (first | (refine tree_det (by rfl) _ (by rfl) (fun W hW => by go_simp; (try simp (disch := omega) only [IntWalk.i64_in, Int.tmod_eq_emod_of_nonneg]); try rfl) ?_; simp only [Act.put, List.setIfInBounds_toArray, List.set_cons_succ, List.set_cons_zero]) | (refine tree_skip (by rfl) (by rfl) ?_; simp only [Act.put, List.setIfInBounds_toArray, List.set_cons_succ, List.set_cons_zero]))
  intro W2 hE hF
  obtain ⟨b5', hb5, hbB, hblk⟩ := hF _ (List.Mem.head _)
  cases hb5
  have hE' : Ext [] W1 W2 := hE
  have HE2 := Lib.hid hE'
  obtain ⟨hc5, hf5, hs5⟩ := cells_of_block hblk
  have HK5 := Lib.hid hblk
  clear hE hF hE' hblk
  obtain ⟨hc1', _, hs1'⟩ := cells_of_block ((HE2.out.block w.heap.size hs1 (by simp)).trans HX1.out)
  clear hc1
  go_wp2_with fail
  refine (Size_any h.start _ h01 h02 (by omega)).mono ?_
  rw [HS.out]
  rintro e W3 ⟨rfl, hb⟩
  have hz3 := hb.size
  have hz2' := HE2.out.size
  simp only [World.size_setCell] at hz3
  have HX13 := Lib.hid (show W3.heap[w.heap.size]? = some (.cells #[iv h.last, iv h.size, iv h.cool, iv h.die, iv h.burn, iv h.start.1, iv h.start.2, .slice ow h.wet.length cw, .slice ob nb cb, .slice oc nc cc] 28 (0, 0)) from
    (hb.block _ (by simp; omega)).trans ((Below.heap_setCell _ _ _ _ (by show w.heap.size ≠ b5; omega)).trans ((Below.heap_setCell _ _ _ _ (by show w.heap.size ≠ b5; omega)).trans ((HE2.out.block w.heap.size hs1 (by simp)).trans HX1.out))))
  have HX23 := Lib.hid (show W3.heap[w.heap.size + 1]? = some (.cells #[iv 0, .slice none 0 0] 66 (0, 0)) from
    (hb.block _ (by simp; omega)).trans ((Below.heap_setCell _ _ _ _ (by show w.heap.size + 1 ≠ b5; omega)).trans ((Below.heap_setCell _ _ _ _ (by show w.heap.size + 1 ≠ b5; omega)).trans ((HE2.out.block _ hs2 (by simp)).trans HX2.out))))
  have HX53 := Lib.hid (show W3.heap[b5]? = some (.cells #[iv t.1, .slice none 0 0] 66 (0, 0)) from by
    rw [HT.out.1]
    exact (hb.block _ (by simp; omega)).trans (set_block (set_block HK5.out _) _))
  have HB3 := Lib.hid (show Below w.heap.size w W3 from bgo (bgoSet (bgoSet (bgo HB1.out HE2.out.below) (by show w.heap.size ≤ b5; omega) _) (by show w.heap.size ≤ b5; omega) _) hb)
  have hb53 : b5 < W3.heap.size := by omega
  have hw3 : w.heap.size + 1 < b5 := by omega
  clear hb hc5 hf5 HK5 HE2 hc1' hs1' HX1 HX2 HB1 hz3 hz2' hs1 hs2
  go_wp2_with fail
  generalize hn1v : n / s = n1 at *
  have HN1 := Lib.hid hn1v
  clear hn1v
  go_loopw [1, 6] (fun nn i wr => ∃ k : Nat, k ≤ h.wet.length ∧ i = .int .i64 k ∧ nn = .int .i64 (restN (h.wet.take k) n1) ∧ ∃ oo oc', wr.heap[b5]? = some (.cells #[iv t.1, .slice oo k oc'] 66 (0, 0)) ∧
      wr.ownsRow W3.heap.size 3 1 (.slice oo k oc') k (intCells (nthW (h.wet.take k) n1)) ∧ Below w.heap.size w wr ∧ W3.heap.size ≤ wr.heap.size ∧ ∀ c, c < W3.heap.size → c ≠ b5 → wr.heap[c]? = W3.heap[c]?) (fun _ i _ => h.wet.length - (intOf i).toNat)
  case atStart => exact ⟨0, Nat.zero_le _, rfl, rfl, none, 0, HX53.out, ⟨rfl, .inl ⟨rfl, rfl⟩⟩, HB3.out, Nat.le_refl _, fun _ _ _ => rfl⟩
  case round =>
    obtain ⟨k, hk, rfl, rfl, oo, oc', hblk, hown, hB, hsw, hkeep⟩ := hrel
    have hx1 := (hkeep w.heap.size (by omega) (by omega)).trans HX13.out
    obtain ⟨hc1, _, hs1⟩ := cells_of_block hx1
    obtain ⟨hc5, hf5, hs5⟩ := cells_of_block hblk
    have hHW := HW.out.below hB (Nat.le_refl _)
    have hszs : ∀ r ∈ h.wet.take k, 1 ≤ sizeR r := fun r hr => HR.out.sz r (List.mem_of_mem_take hr)
    obtain ⟨hr0, hr1⟩ := restN_bd _ n1 hszs hdiv0
    have hr1 : restN (h.wet.take k) n1 ≤ 100000 := by omega
    have HK := Lib.hid (And.intro hblk (And.intro hown (And.intro hB (And.intro hsw hkeep))))
    clear hblk hown hB hkeep hszs hx1
    by_cases hlk : k < h.wet.length
    · obtain ⟨b, off, rfl, hb1, d1, d2⟩ := PairsAt.cell hHW hlk
      have hltI : (k : Int) < h.wet.length := by omega
      have hrr := HR.out.wet _ (List.getElem_mem hlk)
      have hn2 : nthW (h.wet.take (k + 1)) n1 = nthW (h.wet.take k) n1 ++ [h.wet[k].1 + restN (h.wet.take k) n1 % sizeR h.wet[k]] := by
        rw [List.take_succ_eq_append_getElem hlk, nthW_snoc]
      have hn3 : restN (h.wet.take (k + 1)) n1 = restN (h.wet.take k) n1 / sizeR h.wet[k] := by
        rw [List.take_succ_eq_append_getElem hlk, restN_snoc]
      clear hHW
      generalize restN (h.wet.take k) n1 = m at *
      generalize h.wet[k] = x at *
      obtain ⟨hx1, hx2, hx3⟩ := hrr
      obtain ⟨y, hy⟩ : ∃ y, sizeR x = y := ⟨_, rfl⟩
      rw [hy] at hn2 hn3
      have hy1 : 1 ≤ y ∧ y ≤ 21 := by rw [← hy]; unfold sizeR; omega
      obtain ⟨hy1, hy2⟩ := hy1
      have HN := Lib.hid (And.intro hn2 (And.intro hn3 hy))
      clear hn2 hn3 hy
      have hmm0 : 0 ≤ m % y := Int.emod_nonneg _ (by omega)
      have hmm1 : m % y < y := Int.emod_lt_of_pos _ (by omega)
      have hmd0 : 0 ≤ m / y := Int.ediv_nonneg hr0 (by omega)
      have hmd1 : m / y ≤ m := Int.ediv_le_self _ hr0
      have hy0 : ¬ y = 0 := by omega
      have hy0b : (y == 0) = false := by simpa using hy0
      go_wp2_with fail
      refine gworld fun W4 hW4 => ?_
      have hBW := show Below wr.heap.size wr W4 from by rw [hW4]; exact (Below.refl _ _).alloc (Nat.le_refl _) _
      have HX7 := show W4.heap[wr.heap.size]? = some (.cells #[iv x.1, iv x.2] 23 (0, 0)) from by rw [hW4]; exact heap_new0 _ _
      obtain ⟨hc7, _, hs7⟩ := cells_of_block HX7
      obtain ⟨hc5', hf5', hs5'⟩ := cells_of_block ((hBW.block b5 hs5).trans HK.out.1)
      have HBW := Lib.hid hBW
      have hsz4 := hBW.size
      clear hW4 hBW HX7 hc5 hf5 hc1 d1 d2
      have HOW4 := Lib.hid (owns_ext (Ms := []) HK.out.2.1 (Ext.of_below HBW.out) (by simp))
      obtain ⟨Ms, hMs⟩ : ∃ Ms : List Nat, Ms = (Value.slice oo k oc').ownBlock.toList := ⟨_, rfl⟩
      have hMb : ∀ z ∈ Ms, W3.heap.size ≤ z ∧ z < wr.heap.size := fun z hz => by
        rw [hMs] at hz
        exact owns_ge HK.out.2.1 z (by simpa using hz)
      have hMo : ∀ z, (Value.slice oo k oc').ownBlock = some z → z ∈ Ms := fun z hz => by rw [hMs, hz]; simp
      have HMI := Lib.hid (show ∀ z ∈ Ms, (Value.slice oo k oc').ownBlock = some z from fun z hz => by rw [hMs] at hz; simpa using hz)
      have hm5 : ¬ b5 ∈ Ms := fun hz => by have := hMb _ hz; omega
      have hm7 : ¬ wr.heap.size ∈ Ms := fun hz => by have := hMb _ hz; omega
      have HMB := Lib.hid hMb
      have HMO := Lib.hid hMo
      clear hMs hMb hMo
      have hs54 : b5 < W4.heap.size := by omega
      have hG : ∀ (z : Nat) (a b : World), z ∈ Ms → a.ownsRow W3.heap.size 3 1 (.slice oo (k + 1) oc') (k + 1) (intCells (nthW (h.wet.take k) n1) ++ intCells [x.1 + m % y]) → b.heap[z]? = a.heap[z]? → b.ownsRow W3.heap.size 3 1 (.slice oo (k + 1) oc') (k + 1) (intCells (nthW (h.wet.take k) n1) ++ intCells [x.1 + m % y]) := fun z a b hz ha hb => by
        refine owns_keep ha fun g hg => ?_
        have hg' : (Value.slice oo k oc').ownBlock = some g := by
          cases oo with
          | none => cases hg
          | some ad => exact hg
        have h1 := HMI.out z hz
        rw [hg'] at h1
        cases h1
        exact hb
      obtain ⟨Good, hGood⟩ : ∃ Good : World → Prop, Good = fun Wx => Wx.ownsRow W3.heap.size 3 1 (.slice oo (k + 1) oc') (k + 1) (intCells (nthW (h.wet.take k) n1) ++ intCells [x.1 + m % y]) := ⟨_, rfl⟩
      have hGG : ∀ Wx, Good Wx → Wx.ownsRow W3.heap.size 3 1 (.slice oo (k + 1) oc') (k + 1) (intCells (nthW (h.wet.take k) n1) ++ intCells [x.1 + m % y]) := fun Wx hx => by rw [hGood] at hx; exact hx
      have hGI : ∀ Wx, Wx.ownsRow W3.heap.size 3 1 (.slice oo (k + 1) oc') (k + 1) (intCells (nthW (h.wet.take k) n1) ++ intCells [x.1 + m % y]) → Good Wx := fun Wx hx => by rw [hGood]; exact hx
      have hG' : ∀ (z : Nat) (a b : World), z ∈ Ms → Good a → b.heap[z]? = a.heap[z]? → Good b := fun z a b hz ha hb => hGI _ (hG z a b hz (hGG _ ha) hb)
      have HGG := Lib.hid hGG
      have HGI := Lib.hid hGI
      have hxl : (intCells (nthW (h.wet.take k) n1)).length = k * 1 := HK.out.2.1.1
      have HXL := Lib.hid hxl
      clear hG hGG hGI hGood hxl
      refine wp_region_ap 17 Ms Good [b5] (some 16) [(6, RG.Spec.val (iv y)), (9, ⟨fun _ v => ∃ b : Nat, v = .slice (some ⟨b, 0, none⟩) 1 1, fun _ v Wx => ∃ b : Nat, v = .slice (some ⟨b, 0, none⟩) 1 1 ∧ W4.heap.size ≤ b ∧ Wx.heap[b]? = some (.cells #[iv (x.1 + m % y)] 3 (0, 0))⟩),
        (10, ⟨fun _ v => ∃ o c, v = .slice o (k + 1) c, fun _ v Wx => (v = .slice oo (k + 1) oc' ∨ ∀ z ∈ Ms, v.ownBlock ≠ some z) ∧ Wx.ownsRow W3.heap.size 3 1 v (k + 1) (intCells (nthW (h.wet.take k) n1) ++ intCells [x.1 + m % y])⟩), (13, RG.Spec.val (iv y)),
        (16, ⟨fun _ v => v = undef, fun xs _ Wx => ∃ p v, xs = [p, v] ∧ Wx.heap[b5]? = some (.cells #[iv t.1, v] 66 (0, 0))⟩)] hG' (by kernel_rfl) (by kernel_rfl) ?_
      simp only [List.take_succ_cons, List.take_zero, List.drop_succ_cons, List.drop_zero]
      clear hG'
      repeat (refine R2.tree_detA (by kernel_rfl) (by rfl) _ (by rfl) (fun W hW' => by have hW := ApR.cells hW'; clear hW'; go_simp; (try simp (disch := omega) only [IntWalk.i64_in, Int.tmod_eq_emod_of_nonneg]); try rfl) ?_; simp only [Act.put, List.setIfInBounds_toArray, List.set_cons_succ, List.set_cons_zero])
      refine R2.tree_some _ (by rfl) (by rfl) (by exact ⟨_, rfl⟩) (fun W hE hF => ?_) (fun _ _ _ _ _ => trivial) (fun v hv => ?_)
      · refine does_enter 77 #[rv x] (by go_simp; try rfl) ?_
        refine (Size_any x W hx1 hx2 (by omega)).mono ?_
        rw [HN.out.2.2]
        rintro e W' ⟨rfl, hb⟩
        exact ⟨_, rfl, rfl, trivial, ApR.of_ext (Ext.of_below hb)⟩
      obtain rfl : v = _ := hv
      simp only [Act.put, List.setIfInBounds_toArray, List.set_cons_succ, List.set_cons_zero]
      repeat (refine R2.tree_detA (by kernel_rfl) (by rfl) _ (by rfl) (fun W hW' => by have hW := ApR.cells hW'; clear hW'; go_simp; (try simp (disch := omega) only [IntWalk.i64_in, Int.tmod_eq_emod_of_nonneg]); try rfl) ?_; simp only [Act.put, List.setIfInBounds_toArray, List.set_cons_succ, List.set_cons_zero])
      refine R2.tree_some _ (by rfl) (by rfl) (by exact ⟨.slice (some ⟨0, 0, none⟩) 1 1, 0, rfl⟩) (fun W hE hF => ?_) (fun v Wa Wb ho hE => ?_) (fun v hv => ?_)
      · have hE' : ApR Ms Good [] W4 W := by unfold R2.relRely at hE; rwa [if_pos (by kernel_rfl)] at hE
        refine does_value (W' := W.alloc (.cells #[iv (x.1 + m % y)] 3)) (.slice (some ⟨W.heap.size, 0, none⟩) 1 1) (by go_simp; try rfl) ⟨⟨_, rfl⟩, ⟨_, rfl, hE'.1.size, heap_alloc_new _ _⟩, ApR.of_ext (Ext.of_below ((Below.refl _ _).alloc (Nat.le_refl _) _))⟩
      · obtain ⟨b, hb, hge, hc⟩ := ho
        have hE' : ApR Ms Good [b5] Wa Wb := hE
        refine ⟨b, hb, hge, (hE'.1.block b (Array.getElem?_eq_some_iff.1 hc).1 (fun hm => ?_)).trans hc⟩
        rcases List.mem_append.1 hm with hm | hm
        · have := HMB.out b hm; omega
        · have : b = b5 := by simpa using hm
          omega
      obtain ⟨b9, rfl⟩ := hv
      simp only [Act.put, List.setIfInBounds_toArray, List.set_cons_succ, List.set_cons_zero]
      refine R2.tree_some _ (by rfl) (by rfl) (by exact ⟨.slice none (k + 1) 0, none, 0, rfl⟩) (fun W hE hF => ?_) (fun v Wa Wb ho hE => ?_) (fun v hv => ?_)
      · have hE' : ApR Ms Good [] W4 W := by unfold R2.relRely at hE; rwa [if_pos (by kernel_rfl)] at hE
        obtain ⟨b9', hb9, _, hc9⟩ := hF _ (List.Mem.head _) (by kernel_rfl)
        cases hb9
        have hsz := hE'.1.size
        have hownW : W.ownsRow W3.heap.size 3 1 (.slice oo k oc') k (intCells (nthW (h.wet.take k) n1)) := by
          by_cases hgd : Good W
          · exact owns_prefix (m := 1) (HGG.out _ hgd) HXL.out (by omega)
          · refine owns_keep HOW4.out fun g hg => ?_
            have hgm := HMO.out g hg
            have hgl := HMB.out g hgm
            rcases hE'.2 g hgm (by omega) (by simp) with e | e
            · exact e
            · exact absurd e hgd
        refine Does.mono (does_append_two tInts (by rfl) (by rfl) hownW (by rfl) (SlAt.of_block 1 1 hc9 rfl (by decide)) (one_ints [x.1 + m % y]) (by omega) (by omega) (by omega)) ?_
        rintro v W' ⟨hown', hcase⟩
        have hsl := owns_slice hown'
        rcases hcase with ⟨g, cap, hv, hroom, hv', hE2⟩ | ⟨hE2, hnew⟩ | ⟨hE2, hsame⟩
        · injection hv with e1 e2 e3
          subst e1 e3
          refine ⟨hsl, ⟨.inl hv', hown'⟩, ?_⟩
          have hgm := HMO.out g rfl
          refine (show ApR Ms Good [] W W' from ⟨hE2.more (fun z hz => ?_), fun z hz hlt hn => .inr (HGI.out _ (by rw [← hv']; exact hown'))⟩)
          have : z = g := by simpa using hz
          subst this
          simpa using hgm
        · refine ⟨hsl, ⟨.inr fun z hz e => ?_, hown'⟩, ApR.of_ext hE2⟩
          rw [hnew] at e
          have := HMB.out z hz
          injection e with e
          omega
        · obtain ⟨o1, c1, h1⟩ := hsl
          rw [h1] at hsame
          injection hsame with _ e2 _
          omega
      · have hE' : ApR Ms Good [b5] Wa Wb := hE
        refine ⟨ho.1, ?_⟩
        rcases ho.1 with e | e
        · rw [e] at ho ⊢
          by_cases hgd : Good Wb
          · exact HGG.out _ hgd
          · refine owns_keep ho.2 fun g hg => ?_
            have hgm := HMO.out g (by cases oo with | none => cases hg | some ad => exact hg)
            have hgl := HMB.out g hgm
            have hga := (owns_ge ho.2 g hg)
            rcases hE'.2 g hgm hga.2 (by simp; omega) with e | e
            · exact e
            · exact absurd e hgd
        · refine owns_keep ho.2 fun g hg => ?_
          have hga := (owns_ge ho.2 g hg)
          refine hE'.1.block g hga.2 (fun hm => ?_)
          rcases List.mem_append.1 hm with hm | hm
          · exact e g hm hg
          · have : g = b5 := by simpa using hm
            omega
      obtain ⟨o10, c10, rfl⟩ := hv
      simp only [Act.put, List.setIfInBounds_toArray, List.set_cons_succ, List.set_cons_zero]
      refine R2.tree_detB ApR.sub (by rfl) _ (by rfl) (fun W _ => by go_simp; (try simp (disch := omega) only [IntWalk.i64_in, Int.tdiv_eq_ediv_of_nonneg]); try rfl) ?_
      simp only [Act.put, List.setIfInBounds_toArray, List.set_cons_succ, List.set_cons_zero]
      repeat (refine R2.tree_detA (by kernel_rfl) (by rfl) _ (by rfl) (fun W hW' => by have hW := ApR.cells hW'; clear hW'; go_simp; (try simp (disch := omega) only [IntWalk.i64_in, Int.tmod_eq_emod_of_nonneg]); try rfl) ?_; simp only [Act.put, List.setIfInBounds_toArray, List.set_cons_succ, List.set_cons_zero])
      refine R2.tree_some _ (by rfl) (by rfl) (by exact ⟨_, rfl⟩) (fun W hE hF => ?_) (fun _ _ _ _ _ => trivial) (fun v hv => ?_)
      · refine does_enter 77 #[rv x] (by go_simp; try rfl) ?_
        refine (Size_any x W hx1 hx2 (by omega)).mono ?_
        rw [HN.out.2.2]
        rintro e W' ⟨rfl, hb⟩
        exact ⟨_, rfl, rfl, trivial, ApR.of_ext (Ext.of_below hb)⟩
      obtain rfl : v = _ := hv
      simp only [Act.put, List.setIfInBounds_toArray, List.set_cons_succ, List.set_cons_zero]
      refine R2.tree_detB ApR.sub (by rfl) _ (by rfl) (fun W _ => by go_simp; (try simp (disch := omega) only [IntWalk.i64_in, Int.tdiv_eq_ediv_of_nonneg]); try rfl) ?_
      simp only [Act.put, List.setIfInBounds_toArray, List.set_cons_succ, List.set_cons_zero]
      repeat (refine R2.tree_detA (by kernel_rfl) (by rfl) _ (by rfl) (fun W hW' => by have hW := ApR.cells hW'; clear hW'; go_simp; (try simp (disch := omega) only [IntWalk.i64_in, Int.tmod_eq_emod_of_nonneg]); try rfl) ?_; simp only [Act.put, List.setIfInBounds_toArray, List.set_cons_succ, List.set_cons_zero])
      refine R2.tree_some _ (by rfl) (by rfl) (by exact ⟨_, rfl⟩) (fun W hE hF => ?_) (fun v Wa Wb ho hE => ?_) (fun v hv => ?_)
      · have hE' : ApR Ms Good [] W4 W := by unfold R2.relRely at hE; rwa [if_pos (by kernel_rfl)] at hE
        have hb5W : W.heap[b5]? = some (.cells #[iv t.1, .slice oo k oc'] 66 (0, 0)) := (hE'.ext.block b5 hs54 hm5).trans ((HBW.out.block b5 hs5).trans HK.out.1)
        obtain ⟨hcw, hfw, hsw5⟩ := cells_of_block hb5W
        refine does_skip (W' := W.setCell ⟨b5, 1, none⟩ (.slice o10 (k + 1) c10)) (by go_simp; try rfl) ⟨rfl, ⟨_, _, rfl, set_block hb5W _⟩, ?_⟩
        refine (show ApR Ms Good [b5] W (W.setCell ⟨b5, 1, none⟩ (.slice o10 (k + 1) c10)) from ⟨(ext_set W ⟨b5, 1, none⟩ _).more (by simp), fun z hz hlt hn => .inl (Below.heap_setCell _ _ _ _ (by simpa using hn))⟩)
      · obtain ⟨p, v, hv, hc⟩ := ho
        have hE' : ApR Ms Good [] Wa Wb := hE
        exact ⟨p, v, hv, (hE'.ext.block b5 (Array.getElem?_eq_some_iff.1 hc).1 hm5).trans hc⟩
      obtain rfl : v = _ := hv
      simp only [Act.put]
      intro W6 hE hF
      have hE' : ApR Ms Good [b5] W4 W6 := hE
      obtain ⟨p16, v16, hx16, hc16⟩ := hF _ (List.Mem.head _)
      have h10 := hF _ (List.Mem.tail _ (List.Mem.tail _ (List.Mem.head _)))
      have hown6 : W6.ownsRow W3.heap.size 3 1 (.slice o10 (k + 1) c10) (k + 1) (intCells (nthW (h.wet.take k) n1) ++ intCells [x.1 + m % y]) := h10.2
      obtain rfl : v16 = .slice o10 (k + 1) c10 := by
        have h9 : [Value.pointer (some ⟨b5, 1, none⟩), .slice o10 (k + 1) c10] = [p16, v16] := hx16
        simp at h9
        exact h9.2.symm
      have HFIN := Lib.hid (And.intro hE' (And.intro hown6 hc16))
      clear hE hF hE' hx16 hc16 h10 hown6
      go_wp2_with fail
      go_roundw
      case rel =>
        refine ⟨k + 1, by omega, by go_num, by rw [HN.out.2.1], o10, c10, HFIN.out.2.2, ?_, ?_, by have := HFIN.out.1.1.size; omega, fun c hc hne => ?_⟩
        · rw [HN.out.1, intCells_app]
          exact HFIN.out.2.1
        · have hE := HFIN.out.1.1
          have hB4 := bgo HK.out.2.2.1 HBW.out
          refine ⟨hE.os.trans hB4.os, hE.tape.trans hB4.tape, hE.output.trans hB4.output, by have := hB4.size; have := hE.size; omega, fun c hc => (hE.block c (by have := hB4.size; omega) (fun hm => ?_)).trans (hB4.block c hc)⟩
          rcases List.mem_append.1 hm with hm | hm
          · have := HMB.out c hm; omega
          · have : c = b5 := by simpa using hm
            omega
        · refine (HFIN.out.1.1.block c (by omega) (fun hm => ?_)).trans ((HBW.out.block c (by omega)).trans (HK.out.2.2.2.2 c hc hne))
          rcases List.mem_append.1 hm with hm | hm
          · have := HMB.out c hm; omega
          · exact hne (by simpa using hm)
      case measure => simp [intOf]; omega
    · obtain rfl : k = h.wet.length := by omega
      clear hHW
      have hres := (HK.out.2.2.2.2 (w.heap.size + 1) (by omega) (by omega)).trans HX23.out
      obtain ⟨hc9, hf9, hs9⟩ := cells_of_block hres
      have HRES := Lib.hid hres
      clear hres
      go_wp2_with fail
      refine bodyPost_ret (v := .agg #[iv t.1, .slice oo h.wet.length oc']) (results_cell_row Try.results38 _ _ (w.heap.size + 1) _ _ (0, 0) _ rfl (set_block (set_block HRES.out _) _) Try.underlying66 rfl (by kernel_rfl)) rfl ?_
      have hl2 : t.2.length = h.wet.length := by rw [HT.out.2, nthW_len]
      have hown := HK.out.2.1
      rw [List.take_length, ← HT.out.2] at hown
      refine ⟨_, rfl, ?_, bgoSet (bgoSet HK.out.2.2.1 (by show w.heap.size ≤ w.heap.size + 1; omega) _) (by show w.heap.size ≤ w.heap.size + 1; omega) _⟩
      have := owns_keep hown fun g hg => (Below.heap_setCell _ ⟨w.heap.size + 1, 1, none⟩ (.slice oo h.wet.length oc') _ (by have := (owns_ge hown g hg).1; show g ≠ w.heap.size + 1; omega)).trans (Below.heap_setCell _ ⟨w.heap.size + 1, 0, none⟩ (iv t.1) _ (by have := (owns_ge hown g hg).1; show g ≠ w.heap.size + 1; omega))
      rw [hl2]
      exact owns_base this (by omega)

end Go.Proofs.Ytoibfafmnaooaaa

namespace Go.Proofs.Ytoibfafmnaooaaa
open Cou

/-- The first k readings that are right, by bits. -/
def bitsR (h : HeapD) (t : Int × List Int) : Nat → Nat
  | 0 => 0
  | k + 1 => if rightB h t (h.readings.getD k (0, 0, 0)) then bitsR h t k ||| 2 ^ k else bitsR h t k

theorem bitsR_at (h : HeapD) (t : Int × List Int) : ∀ k j, (bitsR h t k).testBit j = (decide (j < k) && rightB h t (h.readings.getD j (0, 0, 0))) := by
  intro k
  induction k with
  | zero => intro j; simp [bitsR]
  | succ k ih =>
    intro j
    unfold bitsR
    by_cases hj : j = k
    · subst hj
      have h0 := ih j
      simp at h0
      cases hr : rightB h t (h.readings.getD j (0, 0, 0))
      · simp only [Bool.false_eq_true, if_false]
        rw [h0]; simp
      · simp only [if_true]
        rw [Nat.testBit_or, h0, Nat.testBit_two_pow]; simp
    · have h1 : decide (j < k + 1) = decide (j < k) := by rw [Bool.eq_iff_iff]; simp; omega
      rw [h1, ← ih j]
      split
      · rw [Nat.testBit_or, Nat.testBit_two_pow]
        simp
        omega
      · rfl
theorem bitsR_lt (h : HeapD) (t : Int × List Int) : ∀ k, bitsR h t k < 2 ^ k := by
  intro k
  induction k with
  | zero => simp [bitsR]
  | succ k ih =>
    unfold bitsR
    have h1 : (2 : Nat) ^ k < 2 ^ (k + 1) := Nat.pow_lt_pow_right (by omega) (by omega)
    split
    · exact Nat.or_lt_two_pow (by omega) h1
    · omega

/-- For each truth without readings which ones are right, by bits. -/
def allTo (h : HeapD) (n : Nat) : List Int := (List.range n).map fun (i : Nat) => (bitsR h (nthT h i) h.readings.length : Int)
def allBs (h : HeapD) : List Int := allTo h (manyL h).toNat
theorem allTo_succ (h : HeapD) (n : Nat) : allTo h (n + 1) = allTo h n ++ [(bitsR h (nthT h n) h.readings.length : Int)] := by simp [allTo, List.range_succ]
theorem allTo_len (h : HeapD) (n : Nat) : (allTo h n).length = n := by simp [allTo]

/-- Some readings, by bits, are right together in some truth. -/
def canR (all : List Int) (m : Nat) : Bool := all.any fun b => (b.toNat &&& m) == m

theorem and_eq_iff (b m : Nat) : (b &&& m) = m ↔ ∀ j, m.testBit j = true → b.testBit j = true := by
  constructor
  · intro h j hj
    have := congrArg (fun x => x.testBit j) h
    simp only [Nat.testBit_and, hj, Bool.and_true] at this
    exact this
  · intro h
    apply Nat.eq_of_testBit_eq
    intro j
    rw [Nat.testBit_and]
    cases hm : m.testBit j
    · simp
    · rw [h j hm]; rfl

/-- To be right together is to be a truth of the heap with these readings. -/
theorem canR_eq {h : HeapD} (hS : Sound h) {m : Nat} (hm : ∀ j, m.testBit j = true → j < h.readings.length) : canR (allBs h) m = !(truthsL (someH h m) []).isEmpty := by
  rw [Bool.eq_iff_iff]
  have hright : ∀ n : Int, ∀ x ∈ h.readings, rightB h (nthT h n) x = rightR x (heats h (nthT h n) h.turns) := fun n x hx => right_eq hS (nthT_listed hS n) hx
  constructor
  · intro hc
    unfold canR allBs allTo at hc
    rw [List.any_eq_true] at hc
    obtain ⟨b, hb, he⟩ := hc
    obtain ⟨n, hn, rfl⟩ := List.mem_map.1 hb
    simp only [Int.toNat_natCast, beq_iff_eq] at he
    rw [and_eq_iff] at he
    obtain ⟨x, hx, hxt⟩ := nthT_mem hS (n : Int)
    have : (truthsL (someH h m) []).isEmpty = false := by
      rw [truths_ne]
      refine ⟨x, hx, ?_⟩
      rw [hxt, okT_all, List.all_eq_true]
      intro y hy
      obtain ⟨i, hi, hbi, rfl⟩ := mem_someL.1 hy
      have h1 := he i hbi
      rw [bitsR_at] at h1
      simp only [Bool.and_eq_true] at h1
      have hy' : h.readings.getD i (0, 0, 0) ∈ h.readings := by
        rw [show h.readings.getD i (0, 0, 0) = h.readings[i] from by simp [List.getD, hi]]
        exact List.getElem_mem _
      rw [hright _ _ hy'] at h1
      exact h1.2
    rw [this]; rfl
  · intro hc
    have hne : (truthsL (someH h m) []).isEmpty = false := by simpa using hc
    rw [truths_ne] at hne
    obtain ⟨x, hx, hok⟩ := hne
    obtain ⟨n, h0, h1, h2⟩ := nthT_all hS (show x ∈ allL h from hx)
    unfold canR allBs allTo
    rw [List.any_eq_true]
    obtain ⟨k, rfl⟩ := Int.eq_ofNat_of_zero_le h0
    refine ⟨_, List.mem_map.2 ⟨k, List.mem_range.2 (by omega), rfl⟩, ?_⟩
    simp only [Int.toNat_natCast, beq_iff_eq]
    rw [and_eq_iff]
    intro j hj
    have hjl := hm j hj
    rw [bitsR_at]
    rw [okT_all, List.all_eq_true] at hok
    have hmem : h.readings.getD j (0, 0, 0) ∈ someL m h.readings := mem_someL.2 ⟨j, hjl, hj, rfl⟩
    have hy' : h.readings.getD j (0, 0, 0) ∈ h.readings := by
      rw [show h.readings.getD j (0, 0, 0) = h.readings[j] from by simp [List.getD, hjl]]
      exact List.getElem_mem _
    have h3 := hok _ hmem
    rw [Bool.and_eq_true]
    refine ⟨by simpa using hjl, ?_⟩
    rw [hright _ _ hy', h2]
    exact h3

end Go.Proofs.Ytoibfafmnaooaaa

namespace Go.Proofs.Ytoibfafmnaooaaa
open Go.RowKit Go.RG Go.SL Go.Shelf Cou
set_option maxHeartbeats 400000
set_option maxRecDepth 10000

set_option maxHeartbeats 2000000 in
theorem All_any (h : HeapD) (hS : Sound h) (wv tv xv' : Value) (w : World) (hw : PairsAt w wv h.wet) (ht : IntsAt w tv h.turns) (hx : TriplesAt w xv' h.readings) :
    Calls Try.prog 29 #[hv h wv tv xv'] w (PInts (allBs h) w) := by
  have hlen3 := hx.len
  obtain ⟨ow, cw, rfl⟩ := hw.open
  obtain ⟨ot, ct, rfl⟩ := ht.open
  obtain ⟨ox, cx, rfl⟩ := hx.open
  have HW := Lib.hid hw
  have HT := Lib.hid ht
  have HX := Lib.hid hx
  clear hw ht hx
  obtain ⟨_, hm1, hm2⟩ := manyL_sound hS
  obtain ⟨M, hM⟩ : ∃ M : Nat, manyL h = M := ⟨(manyL h).toNat, by omega⟩
  have hM2 : (M : Int) ≤ 2000 := by omega
  have HM := Lib.hid hM
  have HR := Lib.hid hS.ranges
  have hx5 := hS.rdgs
  have hw10 : h.wet.length ≤ 10 := by have := hS.wetLen; have := hS.last9; omega
  have HS := Lib.hid hS
  clear hM hS hm1 hm2
  go_enter Try.func29, Try.ntmps29
  go_wp2_with fail
  refine gworld fun B0 hB0 => ?_
  have HBB := Lib.hid (show Below w.heap.size w B0 from by rw [hB0]; exact (by repeat (first | exact Below.refl _ _ | assumption | refine bgo ?_ (by assumption) | refine bgoAlloc ?_ _ | refine bgoDrew ?_ | refine bgoSet ?_ (by simp; omega) _)))
  have HX1 := Lib.hid (show B0.heap[w.heap.size]? = some (.cells #[.int .i64 h.last, .int .i64 h.size, .int .i64 h.cool, .int .i64 h.die, .int .i64 h.burn, .int .i64 h.start.1, .int .i64 h.start.2, .slice ow h.wet.length cw, .slice ot h.turns.length ct, .slice ox h.readings.length cx] 28 (0, 0)) from by rw [hB0]; exact heap_new0 _ _)
  have hlt0 := (cells_of_block HX1.out).2.2
  clear hB0
  go_loopw [3, 4] (fun o u wr => ∃ k : Nat, k ≤ M ∧ u = .int .i64 k ∧ ∃ oo oc, o = .slice oo k oc ∧ wr.ownsRow B0.heap.size 3 1 (.slice oo k oc) k (intCells (allTo h k)) ∧ Below B0.heap.size B0 wr) (fun _ u _ => M - (intOf u).toNat)
  case atStart => exact ⟨0, Nat.zero_le _, rfl, none, 0, rfl, ⟨rfl, .inl ⟨rfl, rfl⟩⟩, Below.refl _ _⟩
  case round =>
    obtain ⟨k, hk, rfl, oo, oc, rfl, hown, hB⟩ := hrel
    obtain ⟨hc1, _, hs1⟩ := cells_of_block ((hB.block _ hlt0).trans HX1.out)
    have HK := Lib.hid (And.intro hown hB)
    clear hown hB
    obtain ⟨W0, rfl⟩ : ∃ W0 : World, W0 = wr := ⟨_, rfl⟩
    have hBW0 := bgo HBB.out HK.out.2
    have HBW0 := Lib.hid hBW0
    clear hBW0
    by_cases hlt : k < M
    case neg =>
      obtain rfl : k = M := by omega
      go_wp2_with fail
      refine (Many_any h _ _ _ _ (HW.out.below HBW0.out (Nat.le_refl _)) HR.out).mono ?_
      rw [HM.out]
      rintro e W1 ⟨rfl, hb⟩
      have HB1 := Lib.hid hb
      clear hb hc1
      go_wp2_with fail
      go_returns
      refine ⟨.slice oo k oc, by simp, ?_, bgo HBW0.out HB1.out⟩
      have e : allBs h = allTo h k := by unfold allBs; rw [HM.out]; rfl
      rw [e]
      have := SlAt.of_owns (owns_ext (Ms := []) HK.out.1 (Ext.of_below HB1.out) (by simp))
      unfold IntsAt
      rw [allTo_len]
      exact this
    have hltI : (k : Int) < M := by omega
    go_wp2_with fail
    refine (Many_any h _ _ _ _ (HW.out.below HBW0.out (Nat.le_refl _)) HR.out).mono ?_
    rw [HM.out]
    rintro e W1 ⟨rfl, hb⟩
    have HB1 := Lib.hid hb
    have hbl1 := (hb.block _ hs1).trans ((HK.out.2.block _ hlt0).trans HX1.out)
    have HBW1 := Lib.hid (bgo HBW0.out hb)
    have HX11 := Lib.hid hbl1
    have hlt1 := (cells_of_block hbl1).2.2
    clear hb hc1 hbl1
    go_wp2_with fail
    go_loopw [5, 6] (fun b i wq => ∃ j : Nat, j ≤ h.readings.length ∧ i = .int .i64 j ∧ b = .int .i64 (bitsR h (nthT h k) j) ∧ Below W1.heap.size W1 wq) (fun _ i _ => h.readings.length - (intOf i).toNat)
    case atStart => exact ⟨0, Nat.zero_le _, rfl, rfl, Below.refl _ _⟩
    case round =>
      obtain ⟨j, hj, rfl, rfl, hB⟩ := hrel
      obtain ⟨hc1, _, hs1'⟩ := cells_of_block ((hB.block _ hlt1).trans HX11.out)
      have hHX := (HX.out.below HBW1.out (Nat.le_refl _)).below hB (Nat.le_refl _)
      have HBW2 := Lib.hid (bgo HBW1.out hB)
      have HBQ := Lib.hid hB
      have hbl := bitsR_lt h (nthT h k) j
      clear hB
      obtain ⟨b0, hb0⟩ : ∃ b0, bitsR h (nthT h k) j = b0 := ⟨_, rfl⟩
      rw [hb0] at hbl
      by_cases hlj : j < h.readings.length
      · obtain ⟨bb, off, rfl, hb1, d1, d2, d3⟩ := TriplesAt.cell hHX hlj
        have hljI : (j : Int) < h.readings.length := by omega
        have g1 : h.readings.getD j (0, 0, 0) = h.readings[j] := by simp [List.getD, hlj]
        have hrd := HS.out.rdg _ (List.getElem_mem hlj)
        have hlo := listed_of HS.out (nthT_listed HS.out (k : Int))
        have hwl := HS.out.wetLen
        have hl9 := HS.out.last9
        clear hHX
        generalize h.readings[j] = x at *
        have HRD := Lib.hid (show (0 ≤ x.1 ∧ x.1 < (nthT h k).2.length) ∧ x.1 < 12 ∧ (0 ≤ x.2.1 ∧ x.2.1 ≤ 1000) ∧ 0 ≤ x.2.2 ∧ x.2.2 ≤ 50 from ⟨⟨hrd.1.1, by omega⟩, by omega, hrd.2.1, hrd.2.2⟩)
        have hnext : bitsR h (nthT h k) (j + 1) = if rightB h (nthT h k) x then b0 ||| 2 ^ j else b0 := by
          simp only [bitsR, g1, hb0]
        have HNX := Lib.hid hnext
        have hp1N : 1 ≤ 2 ^ j := Nat.one_le_two_pow
        have hp2N : 2 ^ j ≤ 2 ^ 4 := Nat.pow_le_pow_right (by omega) (by omega)
        obtain ⟨hp1, hp2⟩ := pow_bd (show j ≤ 4 by omega)
        have hor : bits .or .i64 (b0 : Int) (2 ^ j) = ((b0 ||| 2 ^ j : Nat) : Int) := by
          have := or_nat b0 (2 ^ j) (by omega) (by omega)
          simpa using this
        have HO := Lib.hid (heatOk_of HS.out (nthT_listed HS.out (k : Int)))
        obtain ⟨t, ht⟩ : ∃ t, nthT h (k : Int) = t := ⟨_, rfl⟩
        rw [ht] at HNX HO HRD hb0
        rw [ht, hb0]
        have HTT := Lib.hid ht
        have HB0' := Lib.hid hb0
        clear g1 hrd hlo hwl hnext ht hb0 hl9
        have hk2 : (k : Int) ≤ 2000 := by omega
        cases hrb : rightB h t x
        · have HRB := Lib.hid hrb
          clear hrb hor
          go_wp2_with fail
          refine wp_region_rg 10 [] none [(3, ⟨fun _ v => ∃ x, v = .agg #[iv t.1, x], fun _ v Wx => ∃ x, v = .agg #[iv t.1, x] ∧ IntsAt Wx x t.2⟩), (9, Spec.val (.bool false))] (by kernel_rfl) (by kernel_rfl) ?_
          simp only [List.take_succ_cons, List.take_zero, List.drop_succ_cons, List.drop_zero]
          repeat (first | (refine tree_det (by rfl) _ (by rfl) (fun W hW => by go_simp; (try simp (disch := omega) only [IntWalk.i64_in]); try rfl) ?_; simp only [Act.put, List.setIfInBounds_toArray, List.set_cons_succ, List.set_cons_zero]) | (refine tree_skip (by rfl) (by rfl) ?_; simp only [Act.put, List.setIfInBounds_toArray, List.set_cons_succ, List.set_cons_zero]))
          refine tree_some _ (by rfl) (by rfl) (by exact ⟨_, undef, rfl⟩) (fun W hE hF => ?_) (fun v Wa Wb ho hE => ?_) (fun v hv => ?_)
          · have hE' : Ext [] wr W := hE
            refine does_enter 38 #[hv h (.slice ow h.wet.length cw) (.slice ot h.turns.length ct) (.slice (some ⟨bb, off, none⟩) h.readings.length cx), iv (k : Int)] (by go_simp; try rfl) ?_
            refine (Nth_any h _ ot (some ⟨bb, off, none⟩) h.turns.length ct h.readings.length cx (k : Int) W ((HW.out.below HBW2.out (Nat.le_refl _)).below hE'.below (Nat.le_refl _)) HR.out (by omega) (by omega) (by omega)).mono ?_
            rw [HTT.out]
            rintro e W' ⟨v, rfl, ho, hb⟩
            exact ⟨_, rfl, ⟨v, rfl⟩, ⟨v, rfl, SlAt.of_owns ho⟩, Ext.of_below hb⟩
          · obtain ⟨x, hv, h1⟩ := ho
            exact ⟨x, hv, h1.below (Ext.below (show Ext [] Wa Wb from hE)) (Nat.le_refl _)⟩
          obtain ⟨u3, rfl⟩ := hv
          simp only [Act.put, List.setIfInBounds_toArray, List.set_cons_succ, List.set_cons_zero]
          repeat (first | (refine tree_det (by rfl) _ (by rfl) (fun W hW => by go_simp; (try simp (disch := omega) only [IntWalk.i64_in]); try rfl) ?_; simp only [Act.put, List.setIfInBounds_toArray, List.set_cons_succ, List.set_cons_zero]) | (refine tree_skip (by rfl) (by rfl) ?_; simp only [Act.put, List.setIfInBounds_toArray, List.set_cons_succ, List.set_cons_zero]))
          refine tree_val _ (by rfl) (by rfl) 74 #[hv h (.slice ow h.wet.length cw) (.slice ot h.turns.length ct) (.slice (some ⟨bb, off, none⟩) h.readings.length cx), .agg #[iv t.1, u3], xv x] (fun W hW => by go_simp; try rfl) (fun W hE hF => ?_) ?_
          · obtain ⟨u', hu1, hu2⟩ := hF _ (List.Mem.head _) (by kernel_rfl)
            cases hu1
            have := Right_any h ow (some ⟨bb, off, none⟩) h.wet.length cw h.readings.length cx (.slice ot h.turns.length ct) t HO.out u3 x W hu2 ((HT.out.below HBW2.out (Nat.le_refl _)).below (Ext.below (show Ext [] wr W from hE)) (Nat.le_refl _)) HRD.out.1.1 HRD.out.1.2 HRD.out.2.1 HRD.out.2.2.1.1 HRD.out.2.2.1.2 HRD.out.2.2.2.1 HRD.out.2.2.2.2
            rw [HRB.out] at this
            exact this
          simp only [Act.put, List.setIfInBounds_toArray, List.set_cons_succ, List.set_cons_zero]
          repeat (first | (refine tree_det (by rfl) _ (by rfl) (fun W hW => by go_simp; (try simp (disch := omega) only [IntWalk.i64_in]); try rfl) ?_; simp only [Act.put, List.setIfInBounds_toArray, List.set_cons_succ, List.set_cons_zero]) | (refine tree_skip (by rfl) (by rfl) ?_; simp only [Act.put, List.setIfInBounds_toArray, List.set_cons_succ, List.set_cons_zero]))
          intro W hE hF
          have HE := Lib.hid (show Ext [] wr W from hE)
          clear hE hF
          go_wp2_with fail
          go_roundw
          case rel =>
            refine ⟨j + 1, by omega, by go_num, ?_, bgo HBQ.out HE.out.below⟩
            rw [HNX.out, HRB.out]
            rfl
          case measure => simp [intOf]; omega
        · have HRB := Lib.hid hrb
          clear hrb
          go_wp2_with fail
          refine wp_region_rg 10 [] none [(3, ⟨fun _ v => ∃ x, v = .agg #[iv t.1, x], fun _ v Wx => ∃ x, v = .agg #[iv t.1, x] ∧ IntsAt Wx x t.2⟩), (9, Spec.val (.bool true))] (by kernel_rfl) (by kernel_rfl) ?_
          simp only [List.take_succ_cons, List.take_zero, List.drop_succ_cons, List.drop_zero]
          repeat (first | (refine tree_det (by rfl) _ (by rfl) (fun W hW => by go_simp; (try simp (disch := omega) only [IntWalk.i64_in]); try rfl) ?_; simp only [Act.put, List.setIfInBounds_toArray, List.set_cons_succ, List.set_cons_zero]) | (refine tree_skip (by rfl) (by rfl) ?_; simp only [Act.put, List.setIfInBounds_toArray, List.set_cons_succ, List.set_cons_zero]))
          refine tree_some _ (by rfl) (by rfl) (by exact ⟨_, undef, rfl⟩) (fun W hE hF => ?_) (fun v Wa Wb ho hE => ?_) (fun v hv => ?_)
          · have hE' : Ext [] wr W := hE
            refine does_enter 38 #[hv h (.slice ow h.wet.length cw) (.slice ot h.turns.length ct) (.slice (some ⟨bb, off, none⟩) h.readings.length cx), iv (k : Int)] (by go_simp; try rfl) ?_
            refine (Nth_any h _ ot (some ⟨bb, off, none⟩) h.turns.length ct h.readings.length cx (k : Int) W ((HW.out.below HBW2.out (Nat.le_refl _)).below hE'.below (Nat.le_refl _)) HR.out (by omega) (by omega) (by omega)).mono ?_
            rw [HTT.out]
            rintro e W' ⟨v, rfl, ho, hb⟩
            exact ⟨_, rfl, ⟨v, rfl⟩, ⟨v, rfl, SlAt.of_owns ho⟩, Ext.of_below hb⟩
          · obtain ⟨x, hv, h1⟩ := ho
            exact ⟨x, hv, h1.below (Ext.below (show Ext [] Wa Wb from hE)) (Nat.le_refl _)⟩
          obtain ⟨u3, rfl⟩ := hv
          simp only [Act.put, List.setIfInBounds_toArray, List.set_cons_succ, List.set_cons_zero]
          repeat (first | (refine tree_det (by rfl) _ (by rfl) (fun W hW => by go_simp; (try simp (disch := omega) only [IntWalk.i64_in]); try rfl) ?_; simp only [Act.put, List.setIfInBounds_toArray, List.set_cons_succ, List.set_cons_zero]) | (refine tree_skip (by rfl) (by rfl) ?_; simp only [Act.put, List.setIfInBounds_toArray, List.set_cons_succ, List.set_cons_zero]))
          refine tree_val _ (by rfl) (by rfl) 74 #[hv h (.slice ow h.wet.length cw) (.slice ot h.turns.length ct) (.slice (some ⟨bb, off, none⟩) h.readings.length cx), .agg #[iv t.1, u3], xv x] (fun W hW => by go_simp; try rfl) (fun W hE hF => ?_) ?_
          · obtain ⟨u', hu1, hu2⟩ := hF _ (List.Mem.head _) (by kernel_rfl)
            cases hu1
            have := Right_any h ow (some ⟨bb, off, none⟩) h.wet.length cw h.readings.length cx (.slice ot h.turns.length ct) t HO.out u3 x W hu2 ((HT.out.below HBW2.out (Nat.le_refl _)).below (Ext.below (show Ext [] wr W from hE)) (Nat.le_refl _)) HRD.out.1.1 HRD.out.1.2 HRD.out.2.1 HRD.out.2.2.1.1 HRD.out.2.2.1.2 HRD.out.2.2.2.1 HRD.out.2.2.2.2
            rw [HRB.out] at this
            exact this
          simp only [Act.put, List.setIfInBounds_toArray, List.set_cons_succ, List.set_cons_zero]
          repeat (first | (refine tree_det (by rfl) _ (by rfl) (fun W hW => by go_simp; (try simp (disch := omega) only [IntWalk.i64_in]); try rfl) ?_; simp only [Act.put, List.setIfInBounds_toArray, List.set_cons_succ, List.set_cons_zero]) | (refine tree_skip (by rfl) (by rfl) ?_; simp only [Act.put, List.setIfInBounds_toArray, List.set_cons_succ, List.set_cons_zero]))
          intro W hE hF
          have HE := Lib.hid (show Ext [] wr W from hE)
          clear hE hF
          go_wp2_with fail
          go_roundw
          case rel =>
            refine ⟨j + 1, by omega, by go_num, ?_, bgo HBQ.out HE.out.below⟩
            rw [HNX.out, HRB.out]
            rfl
          case measure => simp [intOf]; omega
      · obtain rfl : j = h.readings.length := by omega
        clear hHX hbl
        have HB0' := Lib.hid hb0
        rw [hb0]
        clear hb0
        have hzq := HBQ.out.size
        have hz1 := HB1.out.size
        have hzk := HK.out.2.size
        have HOW := Lib.hid (owns_ext (Ms := []) HK.out.1 (Ext.of_below (bgo HB1.out HBQ.out)) (by simp))
        have hk9 : k ≤ 2000 := by omega

        go_wp2_with (at_builtin; go_loud (refine wpList_append_at rfl _ _ tInts rfl B0.heap.size (.slice oo k oc) k (intCells (allTo h k)) rfl (owns_ext (Ms := []) HOW.out (Ext.of_below ((Below.refl _ _).alloc (Nat.le_refl _) _)) (by simp)) (.slice (some ⟨wr.heap.size, 0, none⟩) 1 1) 1 (intCells [(b0 : Int)]) rfl (SlAt.of_block 1 1 (heap_new0 _ _) rfl (by decide)) (one_ints _) (by omega) (by omega) (by simp; omega) ?_))
        intro v' W6 hown6 hgr6 _
        obtain ⟨o6, c6, rfl⟩ := owns_slice hown6
        have hpu := ap_push0 (w := B0) (bgo HK.out.2 (bgo HB1.out HBQ.out)) HOW.out (Ext.of_below ((Below.refl _ _).alloc (Nat.le_refl _) _)) hown6 hgr6 (Nat.le_refl _) (by omega)
        have HP := Lib.hid hpu
        have HO6 := Lib.hid hown6
        clear hpu hown6 hgr6
        go_wp2_with fail
        go_roundw
        case rel =>
          refine ⟨k + 1, by omega, by go_num, o6, c6, rfl, ?_, HP.out.1⟩
          rw [allTo_succ, intCells_app, HB0'.out]
          exact HO6.out
        case measure => simp [intOf]; omega

end Go.Proofs.Ytoibfafmnaooaaa

namespace Go.Proofs.Ytoibfafmnaooaaa
open Go.RowKit Go.RG Go.SL Go.Shelf Cou
set_option maxHeartbeats 400000
set_option maxRecDepth 10000

theorem Can_any (l : List Int) (v : Value) (m : Nat) (w : World) (hv : IntsAt w v l) (hl : ∀ x ∈ l, 0 ≤ x ∧ x ≤ 31) (hm : (m : Int) ≤ 31) : Calls Try.prog 75 #[v, iv m] w (PV (.bool (canR l m)) w) := by
  obtain ⟨o, c, rfl⟩ := hv.open
  have hlen := hv.len
  have HV := Lib.hid hv
  have HL := Lib.hid hl
  clear hv hl
  obtain ⟨q, hq⟩ : ∃ q, canR l m = q := ⟨_, rfl⟩
  rw [hq]
  have HQ := Lib.hid hq
  clear hq
  go_enter Try.func75, Try.ntmps75
  go_wp2_with fail
  go_loopw [5] (fun u wr => ∃ k : Nat, k ≤ l.length ∧ u = .int .i64 k ∧ Below w.heap.size w wr ∧ ∀ j, j < k → (((l.getD j 0).toNat &&& m) == m) = false) (fun u _ => l.length - (intOf u).toNat)
  case atStart => exact ⟨0, Nat.zero_le _, rfl, Below.refl _ _, fun j hj => by omega⟩
  case round =>
    obtain ⟨k, hk, rfl, hB, hno⟩ := hrel
    have HN := Lib.hid hno
    clear hno
    by_cases hlt : k < l.length
    · obtain ⟨b, off, rfl, hb1, d1⟩ := IntsAt.cell (HV.out.below hB (Nat.le_refl _)) hlt
      have hltI : (k : Int) < l.length := by omega
      have g1 : l.getD k 0 = l[k] := by simp [List.getD, hlt]
      obtain ⟨hx0, hx1⟩ := HL.out _ (List.getElem_mem hlt)
      have HMEM := Lib.hid (show ∃ j, ∃ h : j < l.length, l[j] = l[k] from ⟨k, hlt, rfl⟩)
      generalize hxx : l[k] = x at *
      obtain ⟨n, rfl⟩ := Int.eq_ofNat_of_zero_le hx0
      have hand := and_nat n m (by omega) (by omega)
      have HG := Lib.hid g1
      have HB := Lib.hid hB
      have HXX := Lib.hid hxx
      clear g1 hB hxx
      cases he : ((n &&& m) == m)
      · have heI : (((n &&& m : Nat) : Int) == (m : Int)) = false := by
          rw [beq_eq_false_iff_ne] at he ⊢
          omega
        go_wp2_with fail
        go_roundw
        case rel =>
          refine ⟨k + 1, by omega, by go_num, HB.out, fun j hj => ?_⟩
          by_cases e : j = k
          · subst e; rw [HG.out]; exact he
          · exact HN.out j (by omega)
        case measure => simp [intOf]; omega
      · have heI : (((n &&& m : Nat) : Int) == (m : Int)) = true := by
          rw [beq_iff_eq] at he ⊢
          omega
        obtain rfl : q = true := by
          rw [← HQ.out]
          unfold canR
          rw [List.any_eq_true]
          exact ⟨l[k], List.getElem_mem hlt, by rw [HXX.out]; exact he⟩
        go_wp2_with fail
        go_returns
        exact ⟨by simp, HB.out⟩
    · have hkl : k = l.length := by omega
      obtain rfl : q = false := by
        rw [← HQ.out]
        unfold canR
        rw [List.any_eq_false]
        intro x hx
        obtain ⟨j, hj, rfl⟩ := List.getElem_of_mem hx
        have := HN.out j (by omega)
        rw [show l.getD j 0 = l[j] from by simp [List.getD, hj]] at this
        rw [this]; simp
      have HB := Lib.hid hB
      clear hB
      go_wp2_with fail
      go_returns
      exact ⟨by simp, HB.out⟩

/-- The first wrong reading, by the reference; -1 if there is none. -/
def refFirstV (h : HeapD) : Int := match firstS h with
  | some n => (n : Int)
  | none => -1

theorem allBs_bd {h : HeapD} (hr : h.readings.length ≤ 5) : ∀ x ∈ allBs h, 0 ≤ x ∧ x ≤ 31 := by
  intro x hx
  obtain ⟨n, _, rfl⟩ := List.mem_map.1 hx
  have h1 := bitsR_lt h (nthT h n) h.readings.length
  have h2 : 2 ^ h.readings.length ≤ 2 ^ 5 := Nat.pow_le_pow_right (by omega) hr
  omega

theorem can_first {h : HeapD} (hS : Sound h) {n : Nat} (hn : n < h.readings.length) : canR (allBs h) (2 ^ (n + 1) - 1) = !wrongAt h n := by
  rw [canR_eq hS (fun j hj => by rw [Nat.testBit_two_pow_sub_one] at hj; simp at hj; omega), someH_take h (n + 1) (by omega)]
  rfl

theorem refFirst_any (h : HeapD) (hS : Sound h) (wv tv xv' v : Value) (w : World) (hw : PairsAt w wv h.wet) (ht : IntsAt w tv h.turns) (hx : TriplesAt w xv' h.readings) (hal : IntsAt w v (allBs h)) :
    Calls Try.prog 32 #[hv h wv tv xv', v] w (PV (iv (refFirstV h)) w) := by
  obtain ⟨ow, cw, rfl⟩ := hw.open
  obtain ⟨ot, ct, rfl⟩ := ht.open
  obtain ⟨ox, cx, rfl⟩ := hx.open
  have HW := Lib.hid hw
  have HT := Lib.hid ht
  have HX := Lib.hid hx
  clear hw ht hx
  obtain ⟨o, c, rfl⟩ := hal.open
  have HV := Lib.hid hal
  have HS := Lib.hid hS
  have hx5 := hS.rdgs
  obtain ⟨q, hq⟩ : ∃ q, refFirstV h = q := ⟨_, rfl⟩
  rw [hq]
  have HQ := Lib.hid hq
  clear hal hS hq
  go_enter Try.func32, Try.ntmps32
  go_wp2_with fail
  refine gworld fun W1 hW1 => ?_
  have HB1 := Lib.hid (show Below w.heap.size w W1 from by rw [hW1]; exact (by repeat (first | exact Below.refl _ _ | assumption | refine bgo ?_ (by assumption) | refine bgoAlloc ?_ _ | refine bgoDrew ?_ | refine bgoSet ?_ (by simp; omega) _)))
  have HX1 := Lib.hid (show W1.heap[w.heap.size]? = some (.cells #[.int .i64 h.last, .int .i64 h.size, .int .i64 h.cool, .int .i64 h.die, .int .i64 h.burn, .int .i64 h.start.1, .int .i64 h.start.2, .slice ow h.wet.length cw, .slice ot h.turns.length ct, .slice ox h.readings.length cx] 28 (0, 0)) from by rw [hW1]; exact heap_new0 _ _)
  have hlt0 := (cells_of_block HX1.out).2.2
  clear hW1
  go_loopw [5] (fun u wr => ∃ k : Nat, k ≤ h.readings.length ∧ u = .int .i64 k ∧ Below W1.heap.size W1 wr ∧ ∀ j, j < k → wrongAt h j = false) (fun u _ => h.readings.length - (intOf u).toNat)
  case atStart => exact ⟨0, Nat.zero_le _, rfl, Below.refl _ _, fun j hj => by omega⟩
  case round =>
    obtain ⟨k, hk, rfl, hB, hno⟩ := hrel
    obtain ⟨hc1, _, hs1⟩ := cells_of_block ((hB.block _ hlt0).trans HX1.out)
    have HN := Lib.hid (And.intro hno hB)
    clear hno hB
    by_cases hlt : k < h.readings.length
    · have hltI : (k : Int) < h.readings.length := by omega
      obtain ⟨hp1, hp2⟩ := pow_bd (show k ≤ 4 by omega)
      have hpc := pow_cast2 k
      have hm31 : ((2 ^ (k + 1) - 1 : Nat) : Int) ≤ 31 := by rw [← hpc]; omega
      have hcf := can_first HS.out hlt
      have HC := Lib.hid (fun (W : World) (hW : IntsAt W (.slice o (allBs h).length c) (allBs h)) => Can_any (allBs h) _ (2 ^ (k + 1) - 1) W hW (allBs_bd hx5) hm31)
      rw [← hpc, hcf] at HC
      clear hpc hm31 hcf
      go_wp2_with fail
      refine (HC.out _ ((HV.out.below HB1.out (Nat.le_refl _)).below HN.out.2 (Nat.le_refl _))).mono ?_
      cases hwr : wrongAt h k
      · rintro e W2 ⟨rfl, hb⟩
        have HB2 := Lib.hid hb
        clear hb HC
        go_wp2_with fail
        go_roundw
        case rel =>
          refine ⟨k + 1, by omega, by go_num, bgo HN.out.2 HB2.out, fun j hj => ?_⟩
          by_cases e : j = k
          · subst e; exact hwr
          · exact HN.out.1 j (by omega)
        case measure => simp [intOf]; omega
      · obtain rfl : q = (k : Int) := by rw [← HQ.out]; unfold refFirstV; rw [firstS_at hlt HN.out.1 hwr]
        rintro e W2 ⟨rfl, hb⟩
        have HB2 := Lib.hid hb
        clear hb HC
        go_wp2_with fail
        go_returns
        exact ⟨by simp, bgo HB1.out (bgo HN.out.2 HB2.out)⟩
    · have hkl : k = h.readings.length := by omega
      obtain rfl : q = -1 := by rw [← HQ.out]; unfold refFirstV; rw [firstS_no (fun j hj => HN.out.1 j (by omega))]
      go_wp2_with fail
      go_returns
      exact ⟨by simp, bgo HB1.out HN.out.2⟩

end Go.Proofs.Ytoibfafmnaooaaa

namespace Go.Proofs.Ytoibfafmnaooaaa
open Go.RowKit Go.RG Go.SL Go.Shelf Cou
set_option maxHeartbeats 400000
set_option maxRecDepth 10000

/-- The best one of the first k sets. -/
def leaveTo (h : HeapD) : Nat → List Int
  | 0 => bitsL (2 ^ h.readings.length - 1)
  | k + 1 => if (shorter (bitsL k) (leaveTo h k) && canL h (bitsL k)) then bitsL k else leaveTo h k

theorem before_trans : ∀ a b c, before a b = true → before b c = true → before a c = true := by
  intro a
  induction a with
  | nil =>
    intro b c h1 h2
    cases b <;> cases c <;> simp [before] at h1 h2 ⊢
  | cons x a ih =>
    intro b c h1 h2
    cases b with
    | nil => simp [before] at h1
    | cons y b =>
      cases c with
      | nil => simp [before] at h2
      | cons z c =>
        simp only [before] at h1 h2 ⊢
        by_cases e1 : x = y
        · subst e1
          rw [if_pos rfl] at h1
          by_cases e2 : x = z
          · subst e2
            rw [if_pos rfl] at h2 ⊢
            exact ih b c h1 h2
          · rw [if_neg e2] at h2 ⊢
            exact h2
        · rw [if_neg e1] at h1
          by_cases e2 : y = z
          · subst e2
            rw [if_neg e1]
            exact h1
          · rw [if_neg e2] at h2
            simp only [decide_eq_true_eq] at h1 h2
            rw [if_neg (by omega)]
            simp only [decide_eq_true_eq]
            omega
theorem shorter_trans {a b c : List Int} (h1 : shorter a b = true) (h2 : shorter b c = true) : shorter a c = true := by
  simp only [shorter, Bool.or_eq_true, Bool.and_eq_true, decide_eq_true_eq] at h1 h2 ⊢
  rcases h1 with h1 | ⟨h1, g1⟩
  · rcases h2 with h2 | ⟨h2, _⟩ <;> exact .inl (by omega)
  · rcases h2 with h2 | ⟨h2, g2⟩
    · exact .inl (by omega)
    · exact .inr ⟨by omega, before_trans _ _ _ g1 g2⟩

theorem bits_full (n : Nat) : bitsL (2 ^ n - 1) = upto n := by
  have h1 := Nat.one_le_two_pow (n := n)
  rw [bitsL_eq (p := n) (by omega)]
  unfold bitsTo upto
  rw [List.filter_eq_self.2]
  intro i hi
  rw [Nat.testBit_two_pow_sub_one]
  simpa using hi

theorem leaveTo_is {h : HeapD} (hS : Sound h) : ∀ k, k ≤ 2 ^ h.readings.length → canL h (leaveTo h k) = true ∧ Inc h.readings.length 0 (leaveTo h k) ∧ ∀ j, j < k → canL h (bitsL j) = true → shorter (bitsL j) (leaveTo h k) = false := by
  intro k
  induction k with
  | zero =>
    intro _
    refine ⟨by rw [leaveTo, bits_full]; exact canL_all hS, ?_, fun j hj => by omega⟩
    have h1 := Nat.one_le_two_pow (n := h.readings.length)
    rw [leaveTo, bitsL_eq (p := h.readings.length) (by omega)]
    exact inc_bitsTo _ _
  | succ k ih =>
    intro hk
    obtain ⟨h1, h2, h3⟩ := ih (by omega)
    unfold leaveTo
    split
    · rename_i hc
      simp only [Bool.and_eq_true] at hc
      refine ⟨hc.2, by rw [bitsL_eq (p := h.readings.length) (by omega)]; exact inc_bitsTo _ _, fun j hj hcan => ?_⟩
      by_cases e : j = k
      · subst e; exact shorter_irrefl _
      · have h4 := h3 j (by omega) hcan
        cases hs : shorter (bitsL j) (bitsL k)
        · rfl
        · have h5 := shorter_trans hs hc.1
          rw [h4] at h5; cases h5
    · rename_i hc
      refine ⟨h1, h2, fun j hj hcan => ?_⟩
      by_cases e : j = k
      · subst e
        cases hs : shorter (bitsL j) (leaveTo h j)
        · rfl
        · exact absurd (by rw [hs, hcan]; rfl) hc
      · exact h3 j (by omega) hcan

theorem leaveTo_all {h : HeapD} (hS : Sound h) : leaveTo h (2 ^ h.readings.length) = leaveL h := by
  obtain ⟨c, hc, g1, g2, g3⟩ := leave_some hS
  obtain ⟨h1, h2, h3⟩ := leaveTo_is hS _ (Nat.le_refl _)
  rw [hc]
  have := h3 (ofBits c) (ofBits_lt g2)
  rw [bits_ofBits g2] at this
  exact shorter_total (g3 _ h2 h1) (this g1)

theorem gcallsW {p : Program} {f : Nat} {args : Array Value} {Q : Ending → World → Prop} {w : World} (h : ∀ W, W = w → Calls p f args W Q) : Calls p f args w Q := h w rfl

theorem can_bits {h : HeapD} (hS : Sound h) {k m : Nat} (hk : k < 2 ^ h.readings.length) (hm : ∀ i, m.testBit i = ((2 ^ h.readings.length - 1).testBit i && !k.testBit i)) : canR (allBs h) m = canL h (bitsL k) := by
  rw [canR_eq hS (fun j hj => by rw [hm, Nat.testBit_two_pow_sub_one] at hj; simp at hj; omega)]
  refine (can_some fun i hi => ?_).symm
  rw [hm, Nat.testBit_two_pow_sub_one, decide_eq_true hi, Bool.true_and, bitsL_eq hk]
  congr 1
  rw [Bool.eq_iff_iff, List.contains_iff_mem, mem_bitsTo]
  exact ⟨fun e => ⟨i, hi, e, rfl⟩, fun ⟨j, _, e, ej⟩ => by rw [show i = j from by omega]; exact e⟩

set_option maxHeartbeats 1000000 in
theorem refLeave_any (h : HeapD) (hS : Sound h) (wv tv xv' v : Value) (w : World) (hw : PairsAt w wv h.wet) (ht : IntsAt w tv h.turns) (hx : TriplesAt w xv' h.readings) (hal : IntsAt w v (allBs h)) :
    Calls Try.prog 31 #[hv h wv tv xv', v] w (PInts (leaveL h) w) := by
  obtain ⟨ow, cw, rfl⟩ := hw.open
  obtain ⟨ot, ct, rfl⟩ := ht.open
  obtain ⟨ox, cx, rfl⟩ := hx.open
  have HW := Lib.hid hw
  have HT := Lib.hid ht
  have HX := Lib.hid hx
  clear hw ht hx
  obtain ⟨o, c, rfl⟩ := hal.open
  have HV := Lib.hid hal
  have HS := Lib.hid hS
  have hx5 := hS.rdgs
  have HBD := Lib.hid (allBs_bd hx5)
  obtain ⟨FN, hFN⟩ : ∃ FN : Nat, 2 ^ h.readings.length - 1 = FN := ⟨_, rfl⟩
  have h1p := Nat.one_le_two_pow (n := h.readings.length)
  have h2p : 2 ^ h.readings.length ≤ 2 ^ 5 := Nat.pow_le_pow_right (by omega) hx5
  have hFl : FN ≤ 31 := by omega
  have HFP := Lib.hid (show 2 ^ h.readings.length = FN + 1 from by omega)
  have HFU := Lib.hid (fun (W : World) (hW : TriplesAt W (.slice ox h.readings.length cx) h.readings) => Full_any h (.slice ow h.wet.length cw) (.slice ot h.turns.length ct) _ W hW hx5)
  rw [pow_cast, hFN] at HFU
  have HF0 := Lib.hid (show leaveTo h 0 = bitsL FN from by rw [leaveTo, hFN])
  have HAL := Lib.hid (leaveTo_all hS)
  clear hal hS h1p h2p hFN
  go_enter Try.func31, Try.ntmps31
  go_wp2_with fail
  refine gcallsW fun W1 hW1 => ?_
  have HB1 := Lib.hid (show Below w.heap.size w W1 from by rw [hW1]; exact (by repeat (first | exact Below.refl _ _ | assumption | refine bgo ?_ (by assumption) | refine bgoAlloc ?_ _ | refine bgoDrew ?_ | refine bgoSet ?_ (by simp; omega) _)))
  have HX1 := Lib.hid (show W1.heap[w.heap.size]? = some (.cells #[.int .i64 h.last, .int .i64 h.size, .int .i64 h.cool, .int .i64 h.die, .int .i64 h.burn, .int .i64 h.start.1, .int .i64 h.start.2, .slice ow h.wet.length cw, .slice ot h.turns.length ct, .slice ox h.readings.length cx] 28 (0, 0)) from by rw [hW1]; exact heap_new0 _ _)
  obtain ⟨hc1, _, hlt0⟩ := cells_of_block HX1.out
  clear hW1
  refine (HFU.out _ (HX.out.below HB1.out (Nat.le_refl _))).mono ?_
  rintro e W2 ⟨rfl, hb2⟩
  have HB2 := Lib.hid (show Below W1.heap.size W1 W2 from hb2)
  clear hb2 hc1
  go_wp2_with fail
  refine (Bits_any FN 5 _ (by omega) (by omega)).mono ?_
  rintro e W3 ⟨v3, rfl, hv3, hb3⟩
  rw [← HF0.out] at hv3
  obtain ⟨o3, c3, rfl⟩ := hv3.open
  have HV3 := Lib.hid hv3
  have HB3 := Lib.hid (bgo HB2.out hb3)
  clear hv3 hb3
  go_wp2_with fail
  go_loopw [5, 6] (fun b u wr => ∃ k : Nat, k ≤ FN + 1 ∧ u = .int .i64 k ∧ ∃ ob cb, b = .slice ob (leaveTo h k).length cb ∧ IntsAt wr (.slice ob (leaveTo h k).length cb) (leaveTo h k) ∧ Below W1.heap.size W1 wr) (fun _ u _ => FN + 1 - (intOf u).toNat)
  case atStart => exact ⟨0, Nat.zero_le _, rfl, o3, c3, rfl, HV3.out, HB3.out⟩
  case round =>
    obtain ⟨k, hk, rfl, ob, cb, rfl, hL, hB⟩ := hrel
    obtain ⟨hc1, _, hs1⟩ := cells_of_block ((hB.block _ hlt0).trans HX1.out)
    have HL := Lib.hid hL
    have HB := Lib.hid hB
    clear hL hB
    have HFU1 := Lib.hid (HFU.out _ ((HX.out.below HB1.out (Nat.le_refl _)).below HB.out (Nat.le_refl _)))
    go_wp2_with fail
    refine HFU1.out.mono ?_
    rintro e W4 ⟨rfl, hb4⟩
    have HB4 := Lib.hid (bgo HB.out hb4)
    have HL4 := Lib.hid (HL.out.below hb4 (Nat.le_refl _))
    clear hb4 HFU1 hc1 hs1
    by_cases hlt : k ≤ FN
    · have hltI : (k : Int) ≤ FN := by omega
      have hkb : k < 2 ^ 5 := by omega
      go_wp2_with fail
      refine (Bits_any k 5 _ hkb (by omega)).mono ?_
      rintro e W5 ⟨v5, rfl, hv5, hb5⟩
      obtain ⟨o5, c5, rfl⟩ := hv5.open
      have HV5 := Lib.hid hv5
      have HB5 := Lib.hid (bgo HB4.out hb5)
      have HL5 := Lib.hid (HL4.out.below hb5 (Nat.le_refl _))
      clear hv5 hb5
      have HSH := Lib.hid (Shorter_any _ _ _ _ W5 HV5.out HL5.out)
      go_wp2_with fail
      refine HSH.out.mono ?_
      clear HSH
      cases hsh : shorter (bitsL k) (leaveTo h k)
      · rintro e W6 ⟨rfl, hb6⟩
        have HB6 := Lib.hid (bgo HB5.out hb6)
        have HL6 := Lib.hid (HL5.out.below hb6 (Nat.le_refl _))
        have HE := Lib.hid (show leaveTo h (k + 1) = leaveTo h k from by rw [leaveTo, hsh]; rfl)
        clear hb6 hsh
        go_wp2_with fail
        go_roundw
        case rel =>
          refine ⟨k + 1, by omega, by go_num, ob, cb, ?_⟩
          rw [HE.out]
          exact ⟨rfl, HL6.out, HB6.out⟩
        case measure => simp [intOf]; omega
      · rintro e W6 ⟨rfl, hb6⟩
        have HSH := Lib.hid hsh
        have HB6 := Lib.hid (bgo HB5.out hb6)
        have HL6 := Lib.hid (HL5.out.below hb6 (Nat.le_refl _))
        have HV6 := Lib.hid (HV5.out.below hb6 (Nat.le_refl _))
        obtain ⟨hc6, _, hs6⟩ := cells_of_block ((HB6.out.block _ hlt0).trans HX1.out)
        have HFU6 := Lib.hid (HFU.out _ ((HX.out.below HB1.out (Nat.le_refl _)).below HB6.out (Nat.le_refl _)))
        clear hb6 hsh
        go_wp2_with fail
        refine HFU6.out.mono ?_
        rintro e W7 ⟨rfl, hb7⟩
        have HB7 := Lib.hid (bgo HB6.out hb7)
        have HL7 := Lib.hid (HL6.out.below hb7 (Nat.le_refl _))
        have HV7 := Lib.hid (HV6.out.below hb7 (Nat.le_refl _))
        clear hb7 HFU6 hc6 hs6
        obtain ⟨m, hm, hmle, hmb⟩ := andNot_nat FN k (by omega)
        have hcan := can_bits HS.out (k := k) (m := m) (by have := HFP.out; omega) (fun i => by rw [hmb, show 2 ^ h.readings.length - 1 = FN from by have := HFP.out; omega])
        have HC := Lib.hid (Can_any (allBs h) _ m W7 ((HV.out.below HB1.out (Nat.le_refl _)).below HB7.out (Nat.le_refl _)) HBD.out (by omega))
        rw [hcan] at HC
        have HMB := Lib.hid hmb
        clear hcan hmb
        go_wp2_with fail
        refine HC.out.mono ?_
        clear HC
        cases hcn : canL h (bitsL k)
        · rintro e W8 ⟨rfl, hb8⟩
          have HB8 := Lib.hid (bgo HB7.out hb8)
          have HL8 := Lib.hid (HL7.out.below hb8 (Nat.le_refl _))
          have HE := Lib.hid (show leaveTo h (k + 1) = leaveTo h k from by rw [leaveTo, hcn, HSH.out]; rfl)
          clear hb8 hcn
          go_wp2_with fail
          go_roundw
          case rel =>
            refine ⟨k + 1, by omega, by go_num, ob, cb, ?_⟩
            rw [HE.out]
            exact ⟨rfl, HL8.out, HB8.out⟩
          case measure => simp [intOf]; omega
        · rintro e W8 ⟨rfl, hb8⟩
          have HB8 := Lib.hid (bgo HB7.out hb8)
          have HV8 := Lib.hid (HV7.out.below hb8 (Nat.le_refl _))
          have HE := Lib.hid (show leaveTo h (k + 1) = bitsL k from by rw [leaveTo, hcn, HSH.out]; rfl)
          clear hb8 hcn
          go_wp2_with fail
          go_roundw
          case rel =>
            refine ⟨k + 1, by omega, by go_num, o5, c5, ?_⟩
            rw [HE.out]
            exact ⟨rfl, HV8.out, HB8.out⟩
          case measure => simp [intOf]; omega
    · have hltI : ¬ (k : Int) ≤ FN := by omega
      have hkl : k = FN + 1 := by omega
      go_wp2_with fail
      go_returns
      refine ⟨_, by simp; rfl, ?_, bgo HB1.out HB4.out⟩
      rw [← HAL.out, HFP.out, ← hkl]
      exact HL4.out

end Go.Proofs.Ytoibfafmnaooaaa

namespace Go.Proofs.Ytoibfafmnaooaaa
open Go.RowKit Go.RG Go.SL Go.Shelf Cou
set_option maxHeartbeats 400000
set_option maxRecDepth 10000

theorem tRefTruths : SliceT Try.prog 43 66 (.agg #[iv 0, .slice none 0 0]) 2 32 := ⟨Try.underlying43, by kernel_rfl, rfl, by omega⟩

/-- Truths that a call has gathered: its own blocks, all different. -/
structure Tes (base : Nat) (v : Value) (es : List TE) (W : World) : Prop where
  row : W.ownsRow base 66 2 v es.length (teCells es)
  each : ∀ e ∈ es, W.ownsRow base 3 1 e.2.1 e.2.2.length (intCells e.2.2) ∧ ∀ g, e.2.1.ownBlock = some g → v.ownBlock ≠ some g

theorem Tes.ext {base : Nat} {v : Value} {es : List TE} {W W' : World} (h : Tes base v es W) (hE : Ext [] W W') : Tes base v es W' :=
  ⟨owns_ext (Ms := []) h.row hE (by simp), fun e he => ⟨owns_ext (Ms := []) (h.each e he).1 hE (by simp), (h.each e he).2⟩⟩

theorem tes_push {base : Nat} {W W8 W9 : World} {v v' : Value} {es : List TE} {e : TE} (hT : Tes base v es W) (hE : Ext [] W W8) (hG : W8.grownBy W9 v.ownBlock) (hN : v'.ownBlock = v.ownBlock ∨ v'.ownBlock = some W8.heap.size)
    (hO : W9.ownsRow base 66 2 v' (es.length + 1) (teCells es ++ [iv e.1, e.2.1])) (hC : W8.ownsRow W.heap.size 3 1 e.2.1 e.2.2.length (intCells e.2.2)) (hb : base ≤ W.heap.size) : Tes base v' (es ++ [e]) W9 := by
  have hz := hE.size
  have hcb := owns_ge hC
  have hvb := owns_ge hT.row
  refine ⟨?_, fun x hx => ?_⟩
  · rw [List.length_append]
    have : teCells (es ++ [e]) = teCells es ++ [iv e.1, e.2.1] := by simp [teCells]
    rw [this]
    exact hO
  · rcases List.mem_append.1 hx with hx | hx
    · obtain ⟨k1, k2⟩ := hT.each x hx
      have kb := owns_ge k1
      refine ⟨owns_keep k1 fun g hg => (hG.block g (by have := (kb g hg).2; omega) (fun e1 => k2 g hg e1.symm)).trans (hE.block g (kb g hg).2 (by simp)), fun g hg e1 => ?_⟩
      rcases hN with hN | hN
      · exact k2 g hg (by rw [← hN, e1])
      · rw [e1] at hN
        injection hN with hN
        have := (kb g hg).2
        omega
    · obtain rfl : x = e := by simpa using hx
      refine ⟨owns_base (owns_keep hC fun g hg => hG.block g (hcb g hg).2 (fun e1 => by have := (hvb g e1.symm).2; have := (hcb g hg).1; omega)) hb, fun g hg e1 => ?_⟩
      rcases hN with hN | hN
      · have := (hvb g (by rw [← hN, e1])).2; have := (hcb g hg).1; omega
      · rw [e1] at hN
        injection hN with hN
        have := (hcb g hg).2; omega

def teP (e : TE) : Int × List Int := (e.1, e.2.2)

/-- It returns truths that read so; nothing that was there has turned. -/
def PTruths (l : List (Int × List Int)) (w : World) (e : Ending) (w' : World) : Prop := ∃ v es, e = .returned v ∧ TEAt w' v es ∧ es.map teP = l ∧ (∀ e ∈ es, IntsAt w' e.2.1 e.2.2) ∧ Below w.heap.size w w'

def truthsTo (h : HeapD) : Nat → List (Int × List Int)
  | 0 => []
  | k + 1 => if bitsR h (nthT h k) h.readings.length == 2 ^ h.readings.length - 1 then truthsTo h k ++ [nthT h k] else truthsTo h k
def truthsR (h : HeapD) : List (Int × List Int) := truthsTo h (manyL h).toNat
theorem truthsTo_len (h : HeapD) : ∀ k, (truthsTo h k).length ≤ k := by
  intro k
  induction k with
  | zero => exact Nat.le_refl 0
  | succ k ih =>
    unfold truthsTo
    split
    · rw [List.length_append]; simp; omega
    · omega

theorem allBs_at (h : HeapD) {k : Nat} (hk : k < (allBs h).length) : (allBs h)[k] = ((bitsR h (nthT h k) h.readings.length : Nat) : Int) := by
  simp [allBs, allTo]

set_option maxHeartbeats 2000000 in
theorem Truths_any (h : HeapD) (hS : Sound h) (wv tv xv' : Value) (w : World) (hw : PairsAt w wv h.wet) (ht : IntsAt w tv h.turns) (hx : TriplesAt w xv' h.readings) :
    Calls Try.prog 36 #[hv h wv tv xv'] w (PTruths (truthsR h) w) := by
  obtain ⟨ow, cw, rfl⟩ := hw.open
  obtain ⟨ot, ct, rfl⟩ := ht.open
  obtain ⟨ox, cx, rfl⟩ := hx.open
  have HW := Lib.hid hw
  have HT := Lib.hid ht
  have HX := Lib.hid hx
  clear hw ht hx
  obtain ⟨_, hm1, hm2⟩ := manyL_sound hS
  have HR := Lib.hid hS.ranges
  have HS := Lib.hid hS
  have hx5 := hS.rdgs
  have hw10 : h.wet.length ≤ 10 := by have := hS.wetLen; have := hS.last9; omega
  obtain ⟨FN, hFN⟩ : ∃ FN : Nat, 2 ^ h.readings.length - 1 = FN := ⟨_, rfl⟩
  have h2p : 2 ^ h.readings.length ≤ 2 ^ 5 := Nat.pow_le_pow_right (by omega) hx5
  have hFl : FN ≤ 31 := by omega
  have HFU := Lib.hid (fun (W : World) (hW : TriplesAt W (.slice ox h.readings.length cx) h.readings) => Full_nat h (.slice ow h.wet.length cw) (.slice ot h.turns.length ct) _ W hW hx5)
  rw [hFN] at HFU
  have HT1 : Hid (∀ k : Nat, truthsTo h (k + 1) = if bitsR h (nthT h k) h.readings.length == FN then truthsTo h k ++ [nthT h k] else truthsTo h k) := Lib.hid (fun k => by rw [← hFN]; rfl)
  have hll : (allBs h).length = (manyL h).toNat := allTo_len _ _
  have HEND : Hid (truthsR h = truthsTo h (allBs h).length) := Lib.hid (by rw [hll]; rfl)
  have hl2 : (allBs h).length ≤ 2000 := by omega
  have HAT := Lib.hid (fun (k : Nat) (hk : k < (allBs h).length) => allBs_at h hk)
  have HAL := Lib.hid (fun (W : World) (h1 : PairsAt W (.slice ow h.wet.length cw) h.wet) (h2 : IntsAt W (.slice ot h.turns.length ct) h.turns) (h3 : TriplesAt W (.slice ox h.readings.length cx) h.readings) => All_any h HS.out _ _ _ W h1 h2 h3)
  generalize allBs h = l at *
  clear hll hm1 hm2 hFN h2p hS
  go_enter Try.func36, Try.ntmps36
  go_wp2_with fail
  refine gcallsW fun W1 hW1 => ?_
  have HB1 := Lib.hid (show Below w.heap.size w W1 from by rw [hW1]; exact (by repeat (first | exact Below.refl _ _ | assumption | refine bgo ?_ (by assumption) | refine bgoAlloc ?_ _ | refine bgoDrew ?_ | refine bgoSet ?_ (by simp; omega) _)))
  have HX1 := Lib.hid (show W1.heap[w.heap.size]? = some (.cells #[.int .i64 h.last, .int .i64 h.size, .int .i64 h.cool, .int .i64 h.die, .int .i64 h.burn, .int .i64 h.start.1, .int .i64 h.start.2, .slice ow h.wet.length cw, .slice ot h.turns.length ct, .slice ox h.readings.length cx] 28 (0, 0)) from by rw [hW1]; exact heap_new0 _ _)
  have hlt1 := (cells_of_block HX1.out).2.2
  clear hW1
  refine (HAL.out _ (HW.out.below HB1.out (Nat.le_refl _)) (HT.out.below HB1.out (Nat.le_refl _)) (HX.out.below HB1.out (Nat.le_refl _))).mono ?_
  rintro e B0 ⟨v, rfl, hv, hb⟩
  obtain ⟨o, c, rfl⟩ := hv.open
  have HV := Lib.hid hv
  have HBB := Lib.hid (bgo HB1.out hb)
  have HX2 := Lib.hid ((hb.block _ hlt1).trans HX1.out)
  have hlt0 := (cells_of_block HX2.out).2.2
  clear hb hv HAL
  go_wp2_with fail
  go_loopw [4, 5] (fun b u wr => ∃ k : Nat, k ≤ l.length ∧ u = .int .i64 k ∧ ∃ (es : List TE) (oo : Option Addr) (oc : Nat), b = .slice oo es.length oc ∧ es.length ≤ k ∧ es.map teP = truthsTo h k ∧ Tes B0.heap.size (.slice oo es.length oc) es wr ∧ Below B0.heap.size B0 wr) (fun _ u _ => l.length - (intOf u).toNat)
  case atStart => exact ⟨0, Nat.zero_le _, rfl, [], none, 0, rfl, Nat.le_refl _, rfl, ⟨⟨rfl, .inl ⟨rfl, rfl⟩⟩, fun e he => by cases he⟩, Below.refl _ _⟩
  case round =>
    obtain ⟨k, hk, rfl, es, oo, oc, rfl, hek, hes, hT, hB⟩ := hrel
    obtain ⟨hc1, _, hs1⟩ := cells_of_block ((hB.block _ hlt0).trans HX2.out)
    have HES := Lib.hid hes
    have HTE := Lib.hid hT
    have HB := Lib.hid hB
    clear hes hT hB
    by_cases hlt : k < l.length
    case neg =>
      obtain rfl : k = l.length := by omega
      go_wp2_with fail
      go_returns
      refine ⟨.slice oo es.length oc, es, by simp, SlAt.of_owns HTE.out.row, by rw [HES.out, HEND.out], fun e he => SlAt.of_owns (HTE.out.each e he).1, bgo HBB.out HB.out⟩
    have hltI : (k : Int) < l.length := by omega
    obtain ⟨bb, off, rfl, hb1, d1⟩ := IntsAt.cell (HV.out.below HB.out (Nat.le_refl _)) hlt
    rw [HAT.out k hlt] at d1
    have HNX := Lib.hid (HT1.out k)
    have hlo := listed_of HS.out (nthT_listed HS.out (k : Int))
    obtain ⟨t, ht⟩ : ∃ t, nthT h (k : Int) = t := ⟨_, rfl⟩
    rw [ht] at d1 HNX
    obtain ⟨b, hbt⟩ : ∃ b, bitsR h t h.readings.length = b := ⟨_, rfl⟩
    rw [hbt] at d1 HNX
    have HTT := Lib.hid ht
    clear ht hbt hlo
    cases hbe : b == FN
    · have heI : ((b : Int) == (FN : Int)) = false := by
        rw [beq_eq_false_iff_ne] at hbe ⊢
        omega
      rw [hbe] at HNX
      clear hbe
      go_wp2_with fail
      refine wp_region_rg 7 [] none [(5, Spec.val (iv (FN : Int)))] (by kernel_rfl) (by kernel_rfl) ?_
      simp only [List.take_succ_cons, List.take_zero, List.drop_succ_cons, List.drop_zero]
      repeat (first | (refine tree_det (by rfl) _ (by rfl) (fun W hW => by go_simp; (try simp (disch := omega) only [IntWalk.i64_in]); try rfl) ?_; simp only [Act.put, List.setIfInBounds_toArray, List.set_cons_succ, List.set_cons_zero]) | (refine tree_skip (by rfl) (by rfl) ?_; simp only [Act.put, List.setIfInBounds_toArray, List.set_cons_succ, List.set_cons_zero]))
      refine tree_val _ (by rfl) (by rfl) 47 _ (fun W hW => by go_simp; try rfl) (fun W hE hF => by exact HFU.out W (((HX.out.below HBB.out (Nat.le_refl _)).below HB.out (Nat.le_refl _)).below (Ext.below (show Ext [] wr W from hE)) (Nat.le_refl _))) ?_
      simp only [Act.put, List.setIfInBounds_toArray, List.set_cons_succ, List.set_cons_zero]
      repeat (first | (refine tree_det (by rfl) _ (by rfl) (fun W hW => by go_simp; (try simp (disch := omega) only [IntWalk.i64_in]); try rfl) ?_; simp only [Act.put, List.setIfInBounds_toArray, List.set_cons_succ, List.set_cons_zero]) | (refine tree_skip (by rfl) (by rfl) ?_; simp only [Act.put, List.setIfInBounds_toArray, List.set_cons_succ, List.set_cons_zero]))
      intro W hE hF
      have HE := Lib.hid (show Ext [] wr W from hE)
      clear hE hF
      go_wp2_with fail
      go_roundw
      case rel =>
        refine ⟨k + 1, by omega, by go_num, es, oo, oc, rfl, by omega, ?_, HTE.out.ext HE.out, bgo HB.out HE.out.below⟩
        rw [HNX.out]
        exact HES.out
      case measure => simp [intOf]; omega
    · have heI : ((b : Int) == (FN : Int)) = true := by
        rw [beq_iff_eq] at hbe ⊢
        omega
      rw [hbe] at HNX
      clear hbe
      go_wp2_with fail
      refine wp_region_rg 7 [] none [(5, Spec.val (iv (FN : Int)))] (by kernel_rfl) (by kernel_rfl) ?_
      simp only [List.take_succ_cons, List.take_zero, List.drop_succ_cons, List.drop_zero]
      repeat (first | (refine tree_det (by rfl) _ (by rfl) (fun W hW => by go_simp; (try simp (disch := omega) only [IntWalk.i64_in]); try rfl) ?_; simp only [Act.put, List.setIfInBounds_toArray, List.set_cons_succ, List.set_cons_zero]) | (refine tree_skip (by rfl) (by rfl) ?_; simp only [Act.put, List.setIfInBounds_toArray, List.set_cons_succ, List.set_cons_zero]))
      refine tree_val _ (by rfl) (by rfl) 47 _ (fun W hW => by go_simp; try rfl) (fun W hE hF => by exact HFU.out W (((HX.out.below HBB.out (Nat.le_refl _)).below HB.out (Nat.le_refl _)).below (Ext.below (show Ext [] wr W from hE)) (Nat.le_refl _))) ?_
      simp only [Act.put, List.setIfInBounds_toArray, List.set_cons_succ, List.set_cons_zero]
      repeat (first | (refine tree_det (by rfl) _ (by rfl) (fun W hW => by go_simp; (try simp (disch := omega) only [IntWalk.i64_in]); try rfl) ?_; simp only [Act.put, List.setIfInBounds_toArray, List.set_cons_succ, List.set_cons_zero]) | (refine tree_skip (by rfl) (by rfl) ?_; simp only [Act.put, List.setIfInBounds_toArray, List.set_cons_succ, List.set_cons_zero]))
      intro W4 hE hF
      have HE := Lib.hid (show Ext [] wr W4 from hE)
      have HB4 := Lib.hid (bgo HB.out HE.out.below)
      clear hE hF hc1
      obtain ⟨hc4, _, hs4⟩ := cells_of_block ((HB4.out.block _ hlt0).trans HX2.out)
      go_wp2_with fail
      refine (Nth_any h _ ot ox h.turns.length ct h.readings.length cx (k : Int) W4 ((HW.out.below HBB.out (Nat.le_refl _)).below HB4.out (Nat.le_refl _)) HR.out (by omega) (by omega) (by omega)).mono ?_
      rw [HTT.out]
      rintro e W5 ⟨v5, rfl, ho5, hb5⟩
      obtain ⟨o5, c5, rfl⟩ := owns_slice ho5
      have hz5 := hb5.size
      have hz4 := HB4.out.size
      have HB5 := Lib.hid (bgo HB4.out hb5)
      have HE5 := Lib.hid (HE.out.trans (Ext.of_below hb5))
      have HO5 := Lib.hid ho5
      have hzr := HE.out.size
      clear hb5 ho5 hc4
      go_wp2_with (at_builtin; go_loud (refine wpList_append_at rfl _ _ tRefTruths rfl B0.heap.size (.slice oo es.length oc) es.length (teCells es) rfl (owns_ext (Ms := []) HTE.out.row (HE5.out.trans (Ext.of_below ((Below.refl _ _).alloc (Nat.le_refl _) _))) (by simp)) (.slice (some ⟨W5.heap.size, 0, none⟩) 1 1) 1 [iv t.1, .slice o5 t.2.length c5] rfl (SlAt.of_block 2 1 (heap_new0 _ _) rfl (by decide)) (by intro u hu; simp at hu; rcases hu with rfl | rfl <;> rfl) (by omega) (by omega) (by simp; omega) ?_))
      intro v' W6 hown6 hgr6 hn6
      obtain ⟨o6, c6, rfl⟩ := owns_slice hown6
      have hpu := ap_push0 (w := B0) HB.out HTE.out.row (HE5.out.trans (Ext.of_below ((Below.refl _ _).alloc (Nat.le_refl _) _))) hown6 hgr6 (Nat.le_refl _) (by have := HB.out.size; omega)
      have HTP := Lib.hid (tes_push (e := (t.1, .slice o5 t.2.length c5, t.2)) HTE.out (HE5.out.trans (Ext.of_below ((Below.refl _ _).alloc (Nat.le_refl _) _))) hgr6 (by rw [World.size_alloc]; exact hn6) hown6 (owns_base (owns_ext (Ms := []) HO5.out (Ext.of_below ((Below.refl _ _).alloc (Nat.le_refl _) _)) (by simp)) (by omega)) (by have := HB.out.size; omega))
      have HP := Lib.hid hpu
      clear hpu hown6 hgr6 hn6
      go_wp2_with fail
      go_roundw
      case rel =>
        refine ⟨k + 1, by omega, by go_num, es ++ [(t.1, .slice o5 t.2.length c5, t.2)], o6, c6, by simp, by simp; omega, ?_, by simpa using HTP.out, HP.out.1⟩
        rw [HNX.out, List.map_append, HES.out]
        rfl
      case measure => simp [intOf]; omega

end Go.Proofs.Ytoibfafmnaooaaa

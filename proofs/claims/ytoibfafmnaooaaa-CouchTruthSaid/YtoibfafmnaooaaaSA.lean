/-
  Lemmas on a slice of the call's own that grows in a loop, beside boxes that are kept. Over any program.
  Contracts of the reference's small functions: In, Within, Size, Has, IsTurns.
  Contracts of the reference: Many, Fault; of the law: Thin, ready.
  Contracts of the reference: Fault, whole; of the law: Thin, ready.
  Contracts of the law: Heap, some; of the reference: Full, Bits, Before, Shorter.
  Contracts of the reference: Full, Bits, Before, Shorter; of the law: some, inside, narrower.
  Contracts of the law: some, inside, narrower.
-/
import Derived.WalkKit
import Derived.WalkLawsBesides
import Derived.WalkSpells
import Derived.Outline
import Derived.Handy
import Derived.KernelRfl
import Derived.Lib.Hide
import Derived.Test.YtoibfafmnaooaaaWD
import Derived.Test.YtoibfafmnaooaaaMA
import Derived.Test.YtoibfafmnaooaaaWE
import Derived.Laws.BitsLemmas
namespace Go.Proofs.Ytoibfafmnaooaaa
open Go.RowKit Go.RG Go.SL Go.Shelf Cou
set_option maxHeartbeats 400000

theorem gworld {P : Program} {c : Code} {Q : Exit → Act → World → Prop} {a : Act} {W : World} (h : ∀ W', W' = W → Code.wp P c Q a W') : Code.wp P c Q a W := h W rfl

/-- append onto a slice of the call's own. -/
theorem ap_push0 {w W W5 W6 : World} {base size n n' : Nat} {e : TypeId} {v v' : Value} {xs xs' : List Value} (hB : Below w.heap.size w W) (hown : W.ownsRow base e size v n xs) (hE : Ext [] W W5)
    (_hown6 : W6.ownsRow base e size v' n' xs') (hgr : W5.grownBy W6 v.ownBlock) (hbase : w.heap.size ≤ base) (hsz : base ≤ W.heap.size) :
    Below w.heap.size w W6 ∧ base ≤ W6.heap.size ∧ ∀ c, c < base → W6.heap[c]? = W.heap[c]? := by
  have hk : ∀ c, c < base → W6.heap[c]? = W.heap[c]? := fun c hc => by
    have h5 := hE.size
    refine (hgr.block c (by omega) (fun e1 => ?_)).trans (hE.block c (by omega) (by simp))
    have := (owns_ge hown c e1.symm).1
    omega
  have h5 := hE.size
  have h6 := hgr.size
  refine ⟨⟨?_, ?_, ?_, ?_, fun c hc => ?_⟩, by omega, hk⟩
  · exact hgr.os.trans (hE.os.trans hB.os)
  · exact hgr.tape.trans (hE.tape.trans hB.tape)
  · exact hgr.output.trans (hE.output.trans hB.output)
  · have := hB.size; omega
  · exact (hk c (by omega)).trans (hB.block c hc)

/-- append onto a slice of the call's own that lies in a box. -/
theorem ap_push {w W W5 W6 : World} {base size n n' b i : Nat} {e t : TypeId} {v v' u : Value} {xs xs' : List Value} {cs : Array Value} (hB : Below w.heap.size w W) (hown : W.ownsRow base e size v n xs) (hE : Ext [] W W5)
    (hown6 : W6.ownsRow base e size v' n' xs') (hgr : W5.grownBy W6 v.ownBlock) (hsz : base ≤ W.heap.size) (hbb : b < base) (hwb : w.heap.size ≤ b) (hblk : W.heap[b]? = some (.cells cs t (0, 0))) :
    Below w.heap.size w (W6.setCell ⟨b, i, none⟩ u) ∧ base ≤ (W6.setCell ⟨b, i, none⟩ u).heap.size ∧ (W6.setCell ⟨b, i, none⟩ u).ownsRow base e size v' n' xs' ∧
      (W6.setCell ⟨b, i, none⟩ u).heap[b]? = some (.cells (cs.setIfInBounds i u) t (0, 0)) ∧ ∀ c, c < base → c ≠ b → (W6.setCell ⟨b, i, none⟩ u).heap[c]? = W.heap[c]? := by
  obtain ⟨h1, h2, h3⟩ := ap_push0 hB hown hE hown6 hgr (by omega) hsz
  refine ⟨h1.setCell hwb u, by simpa [World.setCell] using h2, owns_ext (Ms := [b]) hown6 (ext_set W6 ⟨b, i, none⟩ u) (by simpa using hbb), set_block ((h3 b hbb).trans hblk) u, fun c hc hne => ?_⟩
  exact (Below.heap_setCell _ _ _ _ hne).trans (h3 c hc)

/-- The cells of a block, read. -/
theorem cells_of_block {W : World} {b : Nat} {cs : Array Value} {t : TypeId} (h : W.heap[b]? = some (.cells cs t (0, 0))) : (∀ i, W.cell? ⟨b, i, none⟩ = cs[i]?) ∧ (∀ i, W.frozen? ⟨b, i, none⟩ = false) ∧ b < W.heap.size :=
  ⟨fun i => by simp [World.cell?, h], fun i => frozen_of_block h i, (Array.getElem?_eq_some_iff.1 h).1⟩

theorem contains_at {l : List Int} {n : Int} {k : Nat} (hk : k < l.length) (h : l.getD k 0 = n) : l.contains n = true := by
  have e : l.getD k 0 = l[k] := by simp [List.getD, hk]
  rw [e] at h
  rw [← h]
  simp
theorem contains_not {l : List Int} {n : Int} (h : ∀ j, j < l.length → l.getD j 0 ≠ n) : l.contains n = false := by
  cases hc : l.contains n
  · rfl
  · have hm : n ∈ l := by simpa using hc
    obtain ⟨k, hk, rfl⟩ := List.getElem_of_mem hm
    exact absurd (by simp [List.getD, hk]) (h k hk)

theorem pairCells_snoc (R : List Rng) (r : Rng) : pairCells (R ++ [r]) = pairCells R ++ pairCells [r] := by simp [pairCells]
theorem tripleCells_snoc (R : List Rdg) (r : Rdg) : tripleCells (R ++ [r]) = tripleCells R ++ tripleCells [r] := by simp [tripleCells]

end Go.Proofs.Ytoibfafmnaooaaa

namespace Go.Proofs.Ytoibfafmnaooaaa
open Go.RowKit Go.RG Go.SL Go.Shelf Cou
set_option maxHeartbeats 400000
set_option maxRecDepth 10000

theorem In_any (n l h : Int) (w : World) : Calls Try.prog 43 #[iv n, iv l, iv h] w (PV (.bool (inB n l h)) w) := by
  by_cases h1 : l ≤ n
  all_goals
    go_enter Try.func43, Try.ntmps43
    go_wp2
    go_returns
    exact ⟨by simp [inB]; omega, Below.refl _ _⟩

theorem Within_any (r : Rng) (hi : Int) (w : World) : Calls Try.prog 104 #[rv r, iv 0, iv hi] w (PV (.bool (okR r hi)) w) := by
  go_enter Try.func104, Try.ntmps104
  go_wp2
  all_goals
    go_returns
    exact ⟨by simp [okR]; omega, by go_grown⟩

theorem Size_any (r : Rng) (w : World) (h1 : 0 ≤ r.1) (h2 : r.1 ≤ r.2) (h3 : r.2 ≤ 100000) :
    Calls Try.prog 77 #[rv r] w (PV (iv (sizeR r)) w) := by
  go_enter Try.func77, Try.ntmps77
  go_wp2
  go_returns
  exact ⟨by simp [sizeR], by go_grown⟩

theorem Has_any (l : List Int) (v : Value) (n : Int) (w : World) (hv : IntsAt w v l) : Calls Try.prog 76 #[v, iv n] w (PV (.bool (l.contains n)) w) := by
  obtain ⟨o, c, rfl⟩ := hv.open
  have hlen := hv.len
  have HV := Lib.hid hv
  clear hv
  obtain ⟨q, hq⟩ : ∃ q, l.contains n = q := ⟨_, rfl⟩
  rw [hq]
  have HQ := Lib.hid hq
  clear hq
  go_enter Try.func76, Try.ntmps76
  go_wp2_with fail
  go_loopw [5] (fun u wr => ∃ k : Nat, k ≤ l.length ∧ u = .int .i64 k ∧ Below w.heap.size w wr ∧ ∀ j, j < k → l.getD j 0 ≠ n) (fun u _ => l.length - (intOf u).toNat)
  case atStart => exact ⟨0, Nat.zero_le _, rfl, Below.refl _ _, fun j hj => by omega⟩
  case round =>
    obtain ⟨k, hk, rfl, hB, hno⟩ := hrel
    have HN := Lib.hid hno
    clear hno
    by_cases hlt : k < l.length
    · obtain ⟨b, off, rfl, hb1, d1⟩ := IntsAt.cell (HV.out.below hB (Nat.le_refl _)) hlt
      have hltI : (k : Int) < l.length := by omega
      have g1 : l.getD k 0 = l[k] := by simp [List.getD, hlt]
      generalize l[k] = x at *
      have HG := Lib.hid g1
      have HB := Lib.hid hB
      clear g1 hB
      by_cases hx : x = n
      · have hxb : (x == n) = true := by simpa using hx
        obtain rfl : q = true := by rw [← HQ.out]; exact contains_at hlt (HG.out.trans hx)
        go_wp2_with fail
        go_returns
        exact ⟨by simp, HB.out⟩
      · have hxb : (x == n) = false := by simpa using hx
        go_wp2_with fail
        go_roundw
        case rel =>
          refine ⟨k + 1, by omega, by go_num, HB.out, fun j hj => ?_⟩
          by_cases e : j = k
          · subst e; rw [HG.out]; exact hx
          · exact HN.out j (by omega)
        case measure => simp [intOf]; omega
    · have hkl : k = l.length := by omega
      obtain rfl : q = false := by rw [← HQ.out]; exact contains_not (fun j hj => HN.out j (by omega))
      have HB := Lib.hid hB
      clear hB
      go_wp2_with fail
      go_returns
      exact ⟨by simp, HB.out⟩

theorem askT_of {last : Int} {l : List Int} {k : Nat} (hlt : k < l.length) (hno : ∀ j, j < k → askT last (-1) l j = true) :
    askT last (-1) l k = (inB (l.getD k 0) 0 last && (k == 0 || !decide (l.getD k 0 ≤ l.getD (k - 1) 0))) := by
  cases k with
  | zero => simp [askT]
  | succ m =>
    have h1 := hno m (by omega)
    have h0 : 0 ≤ last := by
      have := hno 0 (by omega)
      simp [askT, inB] at this
      omega
    have h2 := askT_prev last h0 l m (fun j hj => hno j (by omega)) (by omega)
    simp only [askT, inB, Bool.and_eq_true, decide_eq_true_eq] at h1
    simp only [askT, List.getD_cons_succ, inB, Nat.add_sub_cancel]
    rw [Bool.eq_iff_iff]
    simp only [List.getD_eq_getElem?_getD] at h1 h2 ⊢
    simp
    omega

theorem isTurns_at {last : Int} {l : List Int} {k : Nat} (hlt : k < l.length) (h : askT last (-1) l k = false) : isTurns last l = false := by
  unfold isTurns
  rw [turnsFrom_all, List.all_eq_false]
  exact ⟨k, by simpa using hlt, by simp [h]⟩
theorem isTurns_all {last : Int} {l : List Int} (h : ∀ j, j < l.length → askT last (-1) l j = true) : isTurns last l = true := by
  unfold isTurns
  rw [turnsFrom_all, List.all_eq_true]
  exact fun j hj => h j (by simpa using hj)

set_option maxHeartbeats 1000000 in
theorem IsTurns_any (h : HeapD) (wv tv xv' : Value) (l : List Int) (v : Value) (w : World) (hL : IntsAt w v l) :
    Calls Try.prog 25 #[hv h wv tv xv', v] w (PV (.bool (isTurns h.last l)) w) := by
  obtain ⟨o, c, rfl⟩ := hL.open
  have hlen := hL.len
  have HV := Lib.hid hL
  clear hL
  obtain ⟨q, hq⟩ : ∃ q, isTurns h.last l = q := ⟨_, rfl⟩
  rw [hq]
  have HQ := Lib.hid hq
  clear hq
  go_enter Try.func25, Try.ntmps25
  go_wp2_with fail
  refine gworld fun W1 hW1 => ?_
  have HB1 := Lib.hid (show Below w.heap.size w W1 from by rw [hW1]; exact (by repeat (first | exact Below.refl _ _ | assumption | refine bgo ?_ (by assumption) | refine bgoAlloc ?_ _ | refine bgoDrew ?_ | refine bgoSet ?_ (by simp; omega) _)))
  have hA1 : W1.heap[w.heap.size]? = some (.cells #[.int .i64 h.last, .int .i64 h.size, .int .i64 h.cool, .int .i64 h.die, .int .i64 h.burn, .int .i64 h.start.1, .int .i64 h.start.2, wv, tv, xv'] 28 (0, 0)) := by rw [hW1]; exact heap_new0 _ _
  have hs1 : w.heap.size < W1.heap.size := (Array.getElem?_eq_some_iff.1 hA1).1
  have HA1 := Lib.hid hA1
  clear hA1 hW1
  go_loopw [5] (fun u wr => ∃ k : Nat, k ≤ l.length ∧ u = .int .i64 k ∧ Below W1.heap.size W1 wr ∧ ∀ j, j < k → askT h.last (-1) l j = true) (fun u _ => l.length - (intOf u).toNat)
  case atStart => exact ⟨0, Nat.zero_le _, rfl, Below.refl _ _, fun j hj => by omega⟩
  case round =>
    obtain ⟨k, hk, rfl, hB, hno⟩ := hrel
    have HN := Lib.hid hno
    clear hno
    have hAr := (hB.block w.heap.size hs1).trans HA1.out
    have hsr : w.heap.size < wr.heap.size := (Array.getElem?_eq_some_iff.1 hAr).1
    have hcr : ∀ i, wr.cell? ⟨w.heap.size, i, none⟩ = (#[.int .i64 h.last, .int .i64 h.size, .int .i64 h.cool, .int .i64 h.die, .int .i64 h.burn, .int .i64 h.start.1, .int .i64 h.start.2, wv, tv, xv'] : Array Value)[i]? := fun i => by simp only [World.cell?, hAr]; rfl
    have HAr := Lib.hid hAr
    clear hAr
    have hHV := (HV.out.below HB1.out (Nat.le_refl _)).below hB (Nat.le_refl _)
    have HB := Lib.hid hB
    clear hB
    by_cases hlt : k < l.length
    · obtain ⟨b, off, rfl, hb1, d1⟩ := IntsAt.cell hHV hlt
      have hltI : (k : Int) < l.length := by omega
      have hask := askT_of hlt HN.out
      have g1 : l.getD k 0 = l[k] := by simp [List.getD, hlt]
      rw [g1] at hask
      cases hq0 : inB l[k] 0 h.last
      · rw [hq0, Bool.false_and] at hask
        obtain rfl : q = false := by rw [← HQ.out]; exact isTurns_at hlt hask
        generalize l[k] = x at *
        clear hask g1
        go_wp2_with fail
        refine wp_region_rg 24 [] none [(6, Spec.val (.bool false))] (by kernel_rfl) (by kernel_rfl) ?_
        simp only [List.take_succ_cons, List.take_zero, List.drop_succ_cons, List.drop_zero]
        repeat (first | (refine tree_det (by rfl) _ (by rfl) (fun W hW => by go_simp; (try simp (disch := omega) only [IntWalk.i64_in]); try rfl) ?_; simp only [Act.put, List.setIfInBounds_toArray, List.set_cons_succ, List.set_cons_zero]) | (refine tree_skip (by rfl) (by rfl) ?_; simp only [Act.put, List.setIfInBounds_toArray, List.set_cons_succ, List.set_cons_zero]))
        refine tree_val _ (by rfl) (by rfl) 43 _ (fun W hW => by go_simp; try rfl) (fun W hE hF => by exact by have := In_any x 0 h.last W; rw [hq0] at this; exact this) ?_
        simp only [Act.put, List.setIfInBounds_toArray, List.set_cons_succ, List.set_cons_zero]
        repeat (first | (refine tree_det (by rfl) _ (by rfl) (fun W hW => by go_simp; (try simp (disch := omega) only [IntWalk.i64_in]); try rfl) ?_; simp only [Act.put, List.setIfInBounds_toArray, List.set_cons_succ, List.set_cons_zero]) | (refine tree_skip (by rfl) (by rfl) ?_; simp only [Act.put, List.setIfInBounds_toArray, List.set_cons_succ, List.set_cons_zero]))
        intro W hE hF
        obtain ⟨hc, hf⟩ := bcell hE.below
        have hzE := hE.size
        (try simp only [World.size_alloc] at hzE)
        have HE := Lib.hid hE
        clear hE hF
        go_wp2_with fail
        go_returns
        exact ⟨by simp, bgo HB1.out (bgo HB.out HE.out.below)⟩
      · rw [hq0, Bool.true_and] at hask
        cases k with
        | zero =>
          generalize l[0] = x at *
          simp only [Nat.add_zero] at d1
          have HK := Lib.hid hask
          clear hask g1
          go_wp2_with fail
          refine wp_region_rg 24 [] none [(6, Spec.val (.bool true))] (by kernel_rfl) (by kernel_rfl) ?_
          simp only [List.take_succ_cons, List.take_zero, List.drop_succ_cons, List.drop_zero]
          repeat (first | (refine tree_det (by rfl) _ (by rfl) (fun W hW => by go_simp; (try simp (disch := omega) only [IntWalk.i64_in]); try rfl) ?_; simp only [Act.put, List.setIfInBounds_toArray, List.set_cons_succ, List.set_cons_zero]) | (refine tree_skip (by rfl) (by rfl) ?_; simp only [Act.put, List.setIfInBounds_toArray, List.set_cons_succ, List.set_cons_zero]))
          refine tree_val _ (by rfl) (by rfl) 43 _ (fun W hW => by go_simp; try rfl) (fun W hE hF => by exact by have := In_any x 0 h.last W; rw [hq0] at this; exact this) ?_
          simp only [Act.put, List.setIfInBounds_toArray, List.set_cons_succ, List.set_cons_zero]
          repeat (first | (refine tree_det (by rfl) _ (by rfl) (fun W hW => by go_simp; (try simp (disch := omega) only [IntWalk.i64_in]); try rfl) ?_; simp only [Act.put, List.setIfInBounds_toArray, List.set_cons_succ, List.set_cons_zero]) | (refine tree_skip (by rfl) (by rfl) ?_; simp only [Act.put, List.setIfInBounds_toArray, List.set_cons_succ, List.set_cons_zero]))
          intro W hE hF
          obtain ⟨hc, hf⟩ := bcell hE.below
          have hzE := hE.size
          (try simp only [World.size_alloc] at hzE)
          have HE := Lib.hid hE
          clear hE hF
          go_wp2_with fail
          go_roundw
          case rel =>
            refine ⟨1, by omega, by go_num, bgo HB.out HE.out.below, fun j hj => ?_⟩
            obtain rfl : j = 0 := by omega
            rw [HK.out]; rfl
          case measure => simp [intOf]; omega
        | succ m =>
          have hm : m < l.length := by omega
          have d2 := (IntsAt.cell hHV hm)
          obtain ⟨b2, off2, he, _, d2⟩ := d2
          cases he
          have g2 : l.getD m 0 = l[m] := by simp [List.getD, hm]
          rw [Nat.add_sub_cancel, g2] at hask
          have hmI : (m : Int) < l.length := by omega
          have hsub : ((m + 1 : Nat) : Int) - 1 = (m : Int) := by omega
          generalize l[m + 1] = x at *
          generalize l[m] = y at *
          clear g1 g2
          replace hask : askT h.last (-1) l (m + 1) = !decide (x ≤ y) := by rw [hask]; simp
          have HK := Lib.hid hask
          clear hask
          cases hd : decide (x ≤ y)
          · go_wp2_with fail
            refine wp_region_rg 24 [] none [(6, Spec.val (.bool true))] (by kernel_rfl) (by kernel_rfl) ?_
            simp only [List.take_succ_cons, List.take_zero, List.drop_succ_cons, List.drop_zero]
            repeat (first | (refine tree_det (by rfl) _ (by rfl) (fun W hW => by go_simp; (try simp (disch := omega) only [IntWalk.i64_in]); try rfl) ?_; simp only [Act.put, List.setIfInBounds_toArray, List.set_cons_succ, List.set_cons_zero]) | (refine tree_skip (by rfl) (by rfl) ?_; simp only [Act.put, List.setIfInBounds_toArray, List.set_cons_succ, List.set_cons_zero]))
            refine tree_val _ (by rfl) (by rfl) 43 _ (fun W hW => by go_simp; try rfl) (fun W hE hF => by exact by have := In_any x 0 h.last W; rw [hq0] at this; exact this) ?_
            simp only [Act.put, List.setIfInBounds_toArray, List.set_cons_succ, List.set_cons_zero]
            repeat (first | (refine tree_det (by rfl) _ (by rfl) (fun W hW => by go_simp; (try simp (disch := omega) only [IntWalk.i64_in]); try rfl) ?_; simp only [Act.put, List.setIfInBounds_toArray, List.set_cons_succ, List.set_cons_zero]) | (refine tree_skip (by rfl) (by rfl) ?_; simp only [Act.put, List.setIfInBounds_toArray, List.set_cons_succ, List.set_cons_zero]))
            intro W hE hF
            obtain ⟨hc, hf⟩ := bcell hE.below
            have hzE := hE.size
            (try simp only [World.size_alloc] at hzE)
            have HE := Lib.hid hE
            clear hE hF
            go_wp2_with fail
            go_roundw
            case rel =>
              refine ⟨m + 2, by omega, by go_num, bgo HB.out HE.out.below, fun j hj => ?_⟩
              by_cases e : j = m + 1
              · subst e; rw [HK.out, hd]; rfl
              · exact HN.out j (by omega)
            case measure => simp [intOf]; omega
          · obtain rfl : q = false := by rw [← HQ.out]; exact isTurns_at hlt (by rw [HK.out, hd]; rfl)
            go_wp2_with fail
            refine wp_region_rg 24 [] none [(6, Spec.val (.bool true))] (by kernel_rfl) (by kernel_rfl) ?_
            simp only [List.take_succ_cons, List.take_zero, List.drop_succ_cons, List.drop_zero]
            repeat (first | (refine tree_det (by rfl) _ (by rfl) (fun W hW => by go_simp; (try simp (disch := omega) only [IntWalk.i64_in]); try rfl) ?_; simp only [Act.put, List.setIfInBounds_toArray, List.set_cons_succ, List.set_cons_zero]) | (refine tree_skip (by rfl) (by rfl) ?_; simp only [Act.put, List.setIfInBounds_toArray, List.set_cons_succ, List.set_cons_zero]))
            refine tree_val _ (by rfl) (by rfl) 43 _ (fun W hW => by go_simp; try rfl) (fun W hE hF => by exact by have := In_any x 0 h.last W; rw [hq0] at this; exact this) ?_
            simp only [Act.put, List.setIfInBounds_toArray, List.set_cons_succ, List.set_cons_zero]
            repeat (first | (refine tree_det (by rfl) _ (by rfl) (fun W hW => by go_simp; (try simp (disch := omega) only [IntWalk.i64_in]); try rfl) ?_; simp only [Act.put, List.setIfInBounds_toArray, List.set_cons_succ, List.set_cons_zero]) | (refine tree_skip (by rfl) (by rfl) ?_; simp only [Act.put, List.setIfInBounds_toArray, List.set_cons_succ, List.set_cons_zero]))
            intro W hE hF
            obtain ⟨hc, hf⟩ := bcell hE.below
            have hzE := hE.size
            (try simp only [World.size_alloc] at hzE)
            have HE := Lib.hid hE
            clear hE hF
            go_wp2_with fail
            go_returns
            exact ⟨by simp, bgo HB1.out (bgo HB.out HE.out.below)⟩
    · have hkl : k = l.length := by omega
      obtain rfl : q = true := by rw [← HQ.out]; exact isTurns_all (fun j hj => HN.out j (by omega))
      go_wp2_with fail
      go_returns
      exact ⟨by simp, bgo HB1.out HB.out⟩

end Go.Proofs.Ytoibfafmnaooaaa

namespace Go.Proofs.Ytoibfafmnaooaaa
open Go.RowKit Go.RG Go.SL Go.Shelf Cou
set_option maxHeartbeats 400000
set_option maxRecDepth 10000

theorem Many_any (h : HeapD) (wv tv xv' : Value) (w : World) (hw : PairsAt w wv h.wet) (hR : RangesOk h) :
    Calls Try.prog 39 #[hv h wv tv xv'] w (PV (iv (manyL h)) w) := by
  obtain ⟨ow, cw, rfl⟩ := hw.open
  have hlen := hw.len
  obtain ⟨h01, h02, h03⟩ := hR.start
  have HR := Lib.hid hR
  have HW := Lib.hid hw
  obtain ⟨q, hq⟩ : ∃ q, manyL h = q := ⟨_, rfl⟩
  rw [hq]
  have HQ := Lib.hid hq
  clear hw hR hq
  go_enter Try.func39, Try.ntmps39
  go_wp2_with fail
  refine (Size_any h.start _ h01 h02 (by omega)).mono ?_
  rintro e W1 ⟨rfl, hb⟩
  have HB1 := Lib.hid (show Below w.heap.size w W1 from bgo (bgoAlloc (Below.refl _ _) _) hb)
  have hA1 : W1.heap[w.heap.size]? = some (.cells #[.int .i64 h.last, .int .i64 h.size, .int .i64 h.cool, .int .i64 h.die, .int .i64 h.burn, .int .i64 h.start.1, .int .i64 h.start.2, .slice ow h.wet.length cw, tv, xv'] 28 (0, 0)) := (hb.block w.heap.size (by simp)).trans (heap_new0 _ _)
  have hs1 : w.heap.size < W1.heap.size := (Array.getElem?_eq_some_iff.1 hA1).1
  have hcr := (cells_of_block hA1).1
  have HA1 := Lib.hid hA1
  clear hA1 hb
  go_wp2_with fail
  clear hcr
  go_loopw [3, 4] (fun u v wr => ∃ k : Nat, k ≤ h.wet.length ∧ u = iv (manyTo h k) ∧ v = .int .i64 k ∧ Below W1.heap.size W1 wr) (fun _ v _ => h.wet.length - (intOf v).toNat)
  case atStart => exact ⟨0, Nat.zero_le _, rfl, rfl, Below.refl _ _⟩
  case round =>
    obtain ⟨k, hk, rfl, rfl, hB⟩ := hrel
    obtain ⟨hm0, hm1⟩ := manyTo_bd HR.out k
    have hAr := (hB.block w.heap.size hs1).trans HA1.out
    have hsr := (cells_of_block hAr).2.2
    have hcr := (cells_of_block hAr).1
    have HAr := Lib.hid hAr
    clear hAr
    have hHW := (HW.out.below HB1.out (Nat.le_refl _)).below hB (Nat.le_refl _)
    have HB := Lib.hid hB
    clear hB
    by_cases hlt : k < h.wet.length
    · obtain ⟨b, off, rfl, hb1, d1, d2⟩ := PairsAt.cell hHW hlt
      have hltI : (k : Int) < h.wet.length := by omega
      have hr := HR.out.wet _ (List.getElem_mem hlt)
      have hsucc := manyTo_succ h k hlt
      clear hHW
      generalize h.wet[k] = r at *
      obtain ⟨hr1, hr2, hr3⟩ := hr
      have HS := Lib.hid hsucc
      clear hsucc
      have hsz : 1 ≤ sizeR r ∧ sizeR r ≤ 21 := by unfold sizeR; omega
      generalize manyTo h k = m at *
      have hmul0 : 0 ≤ m * sizeR r := Int.mul_nonneg (by omega) (by omega)
      have hmul1 : m * sizeR r ≤ 3000 * 21 := Int.mul_le_mul hm1 hsz.2 (by omega) (by omega)
      have hmul2 : m * sizeR r ≤ 63000 := by omega
      clear hsz hmul1
      go_wp2_with fail
      refine (Size_any r _ hr1 hr2 (by omega)).mono ?_
      rintro e W2 ⟨rfl, hb2⟩
      have HB2 := Lib.hid hb2
      clear hb2
      go_wp2_with fail
      go_roundw
      case rel =>
        refine ⟨k + 1, by omega, ?_, by go_num, bgo HB.out HB2.out⟩
        rw [HS.out]
        unfold manyStep
        first | rfl | (simp; omega)
      case measure => simp [intOf]; omega
    · have hkl : k = h.wet.length := by omega
      obtain rfl : q = manyTo h k := by rw [← HQ.out, hkl]; rfl
      clear hHW
      go_wp2_with fail
      go_returns
      exact ⟨by simp, bgo HB1.out HB.out⟩

/-! ### Fault -/
/-- What is asked of a heap first. -/
def headOk (h : HeapD) : Bool :=
  decide (0 ≤ h.last) && (inB h.size 0 20 && (inB h.cool 0 100 && (inB h.die 0 500 && (inB h.burn h.die 500 && (okR h.start 500 && (decide ((h.wet.length : Int) = h.last + 1) && isTurns h.last h.turns))))))

theorem valid_head (h : HeapD) : valid h = (headOk h && h.wet.all (okR · 20) && h.readings.all (okRdg h.last)) := by
  rw [Bool.eq_iff_iff]
  simp only [valid, headOk, numbersOk, inB, okR, Bool.and_eq_true, decide_eq_true_eq, and_assoc]
  constructor
  · rintro ⟨a1, a2, a3, a4, a5, a6, a7, a8, a9, a10, a11, a12, a13, a14, a15⟩
    exact ⟨a1, a2, a3, a4, a5, a6, by omega, a7, a8, a9, a10, a11, a12, a13, a14, a15⟩
  · rintro ⟨a1, a2, a3, a4, a5, a6, b, a7, a8, a9, a10, a11, a12, a13, a14, a15⟩
    exact ⟨a1, a2, a3, a4, a5, a6, a7, a8, a9, a10, a11, a12, a13, a14, a15⟩

theorem fault_bad {h : HeapD} (hl : h.last ≤ 9) (hr : h.readings.length ≤ 5) (hv : valid h = false) : fault h = 1 := by
  unfold fault
  rw [if_neg (by omega), if_pos hv]
theorem fault_good {h : HeapD} (hl : h.last ≤ 9) (hr : h.readings.length ≤ 5) (hv : valid h = true) : fault h = if 2000 < prod (h.start :: h.wet) then 3 else 0 := by
  unfold fault
  rw [if_neg (by omega), if_neg (by rw [hv]; simp)]

theorem Fault_limit (h : HeapD) (wv tv xv' : Value) (w : World) (hx : TriplesAt w xv' h.readings) (hl : 9 < h.last ∨ 5 < h.readings.length) :
    Calls Try.prog 64 #[hv h wv tv xv'] w (PV (iv 3) w) := by
  obtain ⟨ox, cx, rfl⟩ := hx.open
  have hlen := hx.len
  clear hx
  by_cases h9 : 9 < h.last
  · clear hl
    go_enter Try.func64, Try.ntmps64
    go_wp2
    go_returns
    exact ⟨by simp, (by repeat (first | exact Below.refl _ _ | assumption | refine bgo ?_ (by assumption) | refine bgoAlloc ?_ _ | refine bgoDrew ?_ | refine bgoSet ?_ (by simp; omega) _))⟩
  · have h5 : (5 : Int) < h.readings.length := by omega
    clear hl
    go_enter Try.func64, Try.ntmps64
    go_wp2
    go_returns
    exact ⟨by simp, (by repeat (first | exact Below.refl _ _ | assumption | refine bgo ?_ (by assumption) | refine bgoAlloc ?_ _ | refine bgoDrew ?_ | refine bgoSet ?_ (by simp; omega) _))⟩

theorem Fault_head (h : HeapD) (wv tv xv' : Value) (w : World) (hw : PairsAt w wv h.wet) (ht : IntsAt w tv h.turns) (hx : TriplesAt w xv' h.readings) (hl : h.last ≤ 9) (hr : (h.readings.length : Int) ≤ 5) (hq : headOk h = false) :
    Calls Try.prog 64 #[hv h wv tv xv'] w (PV (iv 1) w) := by
  have hlen := hw.len
  obtain ⟨ow, cw, rfl⟩ := hw.open
  obtain ⟨ot, ct, rfl⟩ := ht.open
  obtain ⟨ox, cx, rfl⟩ := hx.open
  have HW := Lib.hid hw
  have HT := Lib.hid ht
  have HX := Lib.hid hx
  clear hw ht hx
  have HQ := Lib.hid hq
  clear hq
  go_enter Try.func64, Try.ntmps64
  go_wp2_with (first | (go_at_call 43; refine (In_any _ _ _ _).mono ?_; rintro e w' ⟨rfl, hb⟩; obtain ⟨hc, hf⟩ := bcell hb; have hz0 : w.heap.size < w'.heap.size := (by have := hb.size; (try simp only [World.size_alloc] at this); omega)) | (go_at_call 104; refine (Within_any _ _ _).mono ?_; rintro e w' ⟨rfl, hb⟩; obtain ⟨hc, hf⟩ := bcell hb; have hz0 : w.heap.size < w'.heap.size := (by have := hb.size; (try simp only [World.size_alloc] at this); omega)) | (go_at_call 25; refine (IsTurns_any h _ _ _ h.turns _ _ (SlAt.below HT.out (by repeat (first | exact Below.refl _ _ | assumption | refine bgo ?_ (by assumption) | refine bgoAlloc ?_ _ | refine bgoDrew ?_ | refine bgoSet ?_ (by simp; omega) _)) (Nat.le_refl _))).mono ?_; rintro e w' ⟨rfl, hb⟩; obtain ⟨hc, hf⟩ := bcell hb; have hz0 : w.heap.size < w'.heap.size := (by have := hb.size; (try simp only [World.size_alloc] at this); omega)))
  all_goals first
    | (go_returns; exact ⟨by simp, (by repeat (first | exact Below.refl _ _ | assumption | refine bgo ?_ (by assumption) | refine bgoAlloc ?_ _ | refine bgoDrew ?_ | refine bgoSet ?_ (by simp; omega) _))⟩)
    | (exfalso; have hx := (‹0 ≤ h.last ∧ (!isTurns h.last h.turns) = false›).2; have hh := HQ.out; simp [headOk, *] at hh; simp [hh] at hx)

theorem head_parts {h : HeapD} (hq : headOk h = true) : 0 ≤ h.last ∧ inB h.size 0 20 = true ∧ inB h.cool 0 100 = true ∧ inB h.die 0 500 = true ∧ inB h.burn h.die 500 = true ∧ okR h.start 500 = true ∧ (h.wet.length : Int) = h.last + 1 ∧ isTurns h.last h.turns = true := by
  simpa only [headOk, Bool.and_eq_true, decide_eq_true_eq] using hq

theorem fault_wet {h : HeapD} (hl : h.last ≤ 9) (hr : h.readings.length ≤ 5) {k : Nat} (hk : k < h.wet.length) (h1 : okR (h.wet.getD k (0, 0)) 20 = false) : fault h = 1 := by
  refine fault_bad hl hr ?_
  rw [valid_head]
  have : h.wet.all (okR · 20) = false := by
    rw [List.all_eq_false]
    refine ⟨h.wet[k], List.getElem_mem _, ?_⟩
    rw [show h.wet.getD k (0, 0) = h.wet[k] from by simp [List.getD, hk]] at h1
    simp [h1]
  simp [this]
theorem fault_rdg {h : HeapD} (hl : h.last ≤ 9) (hr : h.readings.length ≤ 5) {k : Nat} (hk : k < h.readings.length) (h1 : okRdg h.last (h.readings.getD k (0, 0, 0)) = false) : fault h = 1 := by
  refine fault_bad hl hr ?_
  rw [valid_head]
  have : h.readings.all (okRdg h.last) = false := by
    rw [List.all_eq_false]
    refine ⟨h.readings[k], List.getElem_mem _, ?_⟩
    rw [show h.readings.getD k (0, 0, 0) = h.readings[k] from by simp [List.getD, hk]] at h1
    simp [h1]
  simp [this]
theorem all_of_at {α : Type} {l : List α} {p : α → Bool} {d : α} (h : ∀ j, j < l.length → p (l.getD j d) = true) : l.all p = true := by
  rw [List.all_eq_true]
  intro x hx
  obtain ⟨k, hk, rfl⟩ := List.getElem_of_mem hx
  have := h k hk
  rwa [show l.getD k d = l[k] from by simp [List.getD, hk]] at this


end Go.Proofs.Ytoibfafmnaooaaa

namespace Go.Proofs.Ytoibfafmnaooaaa
open Go.RowKit Go.RG Go.SL Go.Shelf Cou
set_option maxHeartbeats 400000
set_option maxRecDepth 10000

set_option maxHeartbeats 4000000 in
theorem Fault_body (h : HeapD) (wv tv xv' : Value) (w : World) (hw : PairsAt w wv h.wet) (ht : IntsAt w tv h.turns) (hx : TriplesAt w xv' h.readings) (hl : h.last ≤ 9) (hr : (h.readings.length : Int) ≤ 5) (hq : headOk h = true) :
    Calls Try.prog 64 #[hv h wv tv xv'] w (PV (iv (fault h)) w) := by
  have hlen := hw.len
  have hxl := hx.len
  obtain ⟨ow, cw, rfl⟩ := hw.open
  obtain ⟨ot, ct, rfl⟩ := ht.open
  obtain ⟨ox, cx, rfl⟩ := hx.open
  have HW := Lib.hid hw
  have HT := Lib.hid ht
  have HX := Lib.hid hx
  clear hw ht hx
  have HQ := Lib.hid hq
  obtain ⟨q1, q2, q3, q4, q5, q6, q7, q8⟩ := head_parts hq
  have q9 : ((h.wet.length : Int) != h.last + 1) = false := by simp [q7]
  obtain ⟨q, hqf⟩ : ∃ q, fault h = q := ⟨_, rfl⟩
  rw [hqf]
  have HF := Lib.hid hqf
  clear hqf hq q7
  go_enter Try.func64, Try.ntmps64
  go_wp2_with (first | (go_at_call 43; refine (In_any _ _ _ _).mono ?_; rintro e w' ⟨rfl, hb⟩; obtain ⟨hc, hf⟩ := bcell hb; have hz0 : w.heap.size < w'.heap.size := (by have := hb.size; (try simp only [World.size_alloc] at this); omega)) | (go_at_call 104; refine (Within_any _ _ _).mono ?_; rintro e w' ⟨rfl, hb⟩; obtain ⟨hc, hf⟩ := bcell hb; have hz0 : w.heap.size < w'.heap.size := (by have := hb.size; (try simp only [World.size_alloc] at this); omega)) | (go_at_call 25; refine (IsTurns_any h _ _ _ h.turns _ _ (SlAt.below HT.out (by repeat (first | exact Below.refl _ _ | assumption | refine bgo ?_ (by assumption) | refine bgoAlloc ?_ _ | refine bgoDrew ?_ | refine bgoSet ?_ (by simp; omega) _)) (Nat.le_refl _))).mono ?_; rintro e w' ⟨rfl, hb⟩; obtain ⟨hc, hf⟩ := bcell hb; have hz0 : w.heap.size < w'.heap.size := (by have := hb.size; (try simp only [World.size_alloc] at this); omega)))
  refine gworld fun W1 hW1 => ?_
  have HB1 := Lib.hid (show Below w.heap.size w W1 from by rw [hW1]; exact (by repeat (first | exact Below.refl _ _ | assumption | refine bgo ?_ (by assumption) | refine bgoAlloc ?_ _ | refine bgoDrew ?_ | refine bgoSet ?_ (by simp; omega) _)))
  have hA1 : W1.heap[w.heap.size]? = some (.cells #[.int .i64 h.last, .int .i64 h.size, .int .i64 h.cool, .int .i64 h.die, .int .i64 h.burn, .int .i64 h.start.1, .int .i64 h.start.2, .slice ow h.wet.length cw, .slice ot h.turns.length ct, .slice ox h.readings.length cx] 28 (0, 0)) := by
    rw [hW1]
    exact (Below.block (show Below (w.alloc (.cells #[.int .i64 h.last, .int .i64 h.size, .int .i64 h.cool, .int .i64 h.die, .int .i64 h.burn, .int .i64 h.start.1, .int .i64 h.start.2, .slice ow h.wet.length cw, .slice ot h.turns.length ct, .slice ox h.readings.length cx] 28)).heap.size (w.alloc (.cells #[.int .i64 h.last, .int .i64 h.size, .int .i64 h.cool, .int .i64 h.die, .int .i64 h.burn, .int .i64 h.start.1, .int .i64 h.start.2, .slice ow h.wet.length cw, .slice ot h.turns.length ct, .slice ox h.readings.length cx] 28)) _ from (by repeat (first | exact Below.refl _ _ | assumption | refine bgo ?_ (by assumption) | refine bgoAlloc ?_ _ | refine bgoDrew ?_ | refine bgoSet ?_ (by simp; omega) _))) w.heap.size (by simp)).trans (heap_new0 _ _)
  have hs1 : w.heap.size < W1.heap.size := (Array.getElem?_eq_some_iff.1 hA1).1
  have HA1 := Lib.hid hA1
  clear hA1 hW1 hc hf hb hz0 q2 q3 q4 q5 q6 q8 q9
  go_loopw [3] (fun u wr => ∃ k : Nat, k ≤ h.wet.length ∧ u = .int .i64 k ∧ Below W1.heap.size W1 wr ∧ ∀ j, j < k → okR (h.wet.getD j (0, 0)) 20 = true) (fun u _ => h.wet.length - (intOf u).toNat)
  case atStart => exact ⟨0, Nat.zero_le _, rfl, Below.refl _ _, fun j hj => by omega⟩
  case round =>
    obtain ⟨k, hk, rfl, hB, hno⟩ := hrel
    have HN := Lib.hid hno
    clear hno
    have hAr := (hB.block w.heap.size hs1).trans HA1.out
    have hsr := (cells_of_block hAr).2.2
    have hcr := (cells_of_block hAr).1
    have HAr := Lib.hid hAr
    clear hAr
    have hHW := (HW.out.below HB1.out (Nat.le_refl _)).below hB (Nat.le_refl _)
    have HB := Lib.hid hB
    clear hB
    by_cases hlt : k < h.wet.length
    · obtain ⟨b, off, rfl, hb1, d1, d2⟩ := PairsAt.cell hHW hlt
      have hltI : (k : Int) < h.wet.length := by omega
      have g1 : h.wet.getD k (0, 0) = h.wet[k] := by simp [List.getD, hlt]
      clear hHW
      generalize h.wet[k] = r at *
      have HG := Lib.hid g1
      clear g1
      cases hr2 : okR r 20
      · obtain rfl : q = 1 := by rw [← HF.out]; exact fault_wet hl (by omega) hlt (by rw [HG.out]; exact hr2)
        go_wp2_with fail
        refine (Within_any r 20 _).mono ?_
        rw [hr2]
        rintro e W2 ⟨rfl, hb2⟩
        have HB2 := Lib.hid hb2
        clear hb2
        go_wp2_with fail
        go_returns
        exact ⟨by simp, bgo HB1.out (bgo HB.out HB2.out)⟩
      · go_wp2_with fail
        refine (Within_any r 20 _).mono ?_
        rw [hr2]
        rintro e W2 ⟨rfl, hb2⟩
        have HB2 := Lib.hid hb2
        clear hb2
        go_wp2_with fail
        go_roundw
        case rel =>
          refine ⟨k + 1, by omega, by go_num, bgo HB.out HB2.out, fun j hj => ?_⟩
          by_cases e : j = k
          · subst e; rw [HG.out]; exact hr2
          · exact HN.out j (by omega)
        case measure => simp [intOf]; omega
    · have hkl : k = h.wet.length := by omega
      have HWO := Lib.hid (show h.wet.all (okR · 20) = true from all_of_at (d := (0, 0)) fun j hj => HN.out j (by omega))
      clear hHW hkl
      go_wp2_with fail
      clear hcr HAr HN
      go_loopw [4] (fun u wq => ∃ k : Nat, k ≤ h.readings.length ∧ u = .int .i64 k ∧ Below W1.heap.size W1 wq ∧ ∀ j, j < k → okRdg h.last (h.readings.getD j (0, 0, 0)) = true) (fun u _ => h.readings.length - (intOf u).toNat)
      case atStart => exact ⟨0, Nat.zero_le _, rfl, HB.out, fun j hj => by omega⟩
      case round =>
        clear hlt hsr HB
        obtain ⟨i, hi, rfl, hB, hno⟩ := hrel
        have HN := Lib.hid hno
        clear hno
        have hAr := (hB.block w.heap.size hs1).trans HA1.out
        have hsr := (cells_of_block hAr).2.2
        have hcr := (cells_of_block hAr).1
        have HAr := Lib.hid hAr
        clear hAr
        have hHX := (HX.out.below HB1.out (Nat.le_refl _)).below hB (Nat.le_refl _)
        have HB := Lib.hid hB
        clear hB
        by_cases hlt : i < h.readings.length
        · obtain ⟨b, off, rfl, hb1, d1, d2, d3⟩ := TriplesAt.cell hHX hlt
          have hltI : (i : Int) < h.readings.length := by omega
          have g1 : h.readings.getD i (0, 0, 0) = h.readings[i] := by simp [List.getD, hlt]
          clear hHX
          generalize h.readings[i] = x at *
          have HG := Lib.hid g1
          clear g1
          cases hr2 : okRdg h.last x
          · obtain rfl : q = 1 := by rw [← HF.out]; exact fault_rdg hl (by omega) hlt (by rw [HG.out]; exact hr2)
            have HR2 := Lib.hid hr2
            clear hr2
            go_wp2_with (go_at_call 43; refine (In_any _ _ _ _).mono ?_; rintro e w' ⟨rfl, hb⟩; obtain ⟨hc, hf⟩ := bcell hb; have hz0 : w.heap.size < w'.heap.size := (by have := hb.size; (try simp only [World.size_alloc] at this); omega); have hz1 : wr.heap.size < w'.heap.size := (by have := hb.size; (try simp only [World.size_alloc] at this); omega))
            all_goals first
              | (go_returns; exact ⟨by simp, bgo HB1.out (bgo HB.out (by repeat (first | exact Below.refl _ _ | assumption | refine bgo ?_ (by assumption) | refine bgoAlloc ?_ _ | refine bgoDrew ?_ | refine bgoSet ?_ (by simp; omega) _)))⟩)
              | (exfalso; have hh := HR2.out; simp [okRdg, *] at hh; done)
              | (exfalso; have hh := HR2.out; simp [okRdg, *] at hh; simp_all; done)
              | (trace "left"; go_ways)
          · have HR2 := Lib.hid hr2
            obtain ⟨⟨r1, r2⟩, r3⟩ : (inB x.1 0 h.last = true ∧ inB x.2.1 0 1000 = true) ∧ inB x.2.2 0 50 = true := by simpa only [okRdg, Bool.and_eq_true] using hr2
            clear hr2
            go_wp2_with (go_at_call 43; refine (In_any _ _ _ _).mono ?_; rintro e w' ⟨rfl, hb⟩; obtain ⟨hc, hf⟩ := bcell hb; have hz0 : w.heap.size < w'.heap.size := (by have := hb.size; (try simp only [World.size_alloc] at this); omega); have hz1 : wr.heap.size < w'.heap.size := (by have := hb.size; (try simp only [World.size_alloc] at this); omega))
            go_roundw
            case rel =>
              refine ⟨i + 1, by omega, by go_num, bgo HB.out (by repeat (first | exact Below.refl _ _ | assumption | refine bgo ?_ (by assumption) | refine bgoAlloc ?_ _ | refine bgoDrew ?_ | refine bgoSet ?_ (by simp; omega) _)), fun j hj => ?_⟩
              by_cases e : j = i
              · subst e; rw [HG.out]; exact HR2.out
              · exact HN.out j (by omega)
            case measure => simp [intOf]; omega
        · have hkl : i = h.readings.length := by omega
          have hval : valid h = true := by
            rw [valid_head, HQ.out, HWO.out, all_of_at (d := (0, 0, 0)) (p := okRdg h.last) (l := h.readings) fun j hj => HN.out j (by omega)]
            rfl
          have hR : RangesOk h := by
            obtain ⟨_, _, _, _, _, p6, _, _⟩ := head_parts HQ.out
            simp only [okR, Bool.and_eq_true, decide_eq_true_eq] at p6
            refine ⟨⟨p6.1.1, p6.1.2, p6.2⟩, fun r hr => ?_⟩
            have := List.all_eq_true.1 HWO.out r hr
            simp only [okR, Bool.and_eq_true, decide_eq_true_eq] at this
            exact ⟨this.1.1, this.1.2, this.2⟩
          have hfl := fault_good hl (by omega) hval
          rw [HF.out] at hfl
          have HFL := Lib.hid hfl
          have HM := Lib.hid (manyL_gt hR)
          have HR := Lib.hid hR
          clear hfl hval hR hkl hHX
          go_wp2_with fail
          refine (Many_any h _ _ _ _ ((HW.out.below HB1.out (Nat.le_refl _)).below HB.out (Nat.le_refl _)) HR.out).mono ?_
          rintro e W2 ⟨rfl, hb2⟩
          have HB2 := Lib.hid hb2
          clear hb2
          by_cases hm : 2000 < manyL h
          · obtain rfl : q = 3 := by rw [HFL.out, if_pos (HM.out.1 hm)]
            go_wp2_with fail
            go_returns
            exact ⟨by simp, bgo HB1.out (bgo HB.out HB2.out)⟩
          · obtain rfl : q = 0 := by rw [HFL.out, if_neg (fun h => hm (HM.out.2 h))]
            go_wp2_with fail
            go_returns
            exact ⟨by simp, bgo HB1.out (bgo HB.out HB2.out)⟩

/-- **The error of a heap.** -/
theorem Fault_any (h : HeapD) (wv tv xv' : Value) (w : World) (hw : PairsAt w wv h.wet) (ht : IntsAt w tv h.turns) (hx : TriplesAt w xv' h.readings) :
    Calls Try.prog 64 #[hv h wv tv xv'] w (PV (iv (fault h)) w) := by
  by_cases hl : 9 < h.last ∨ 5 < h.readings.length
  · rw [show fault h = 3 from by unfold fault; rw [if_pos hl]]
    exact Fault_limit h wv tv xv' w hx (by omega)
  · cases hq : headOk h
    · rw [fault_bad (by omega) (by omega) (by rw [valid_head, hq]; rfl)]
      exact Fault_head h wv tv xv' w hw ht hx (by omega) (by omega) hq
    · exact Fault_body h wv tv xv' w hw ht hx (by omega) (by omega) hq

/-! ### Thin, ready -/
def thinB (h : HeapD) : Bool := decide (h.wet.length ≤ 12) && (decide (h.turns.length ≤ 12) && (decide (h.readings.length ≤ 7) && (decide (fault h ≠ 0) || decide (manyL h ≤ 100))))
def readyB (h : HeapD) : Bool := thinB h && decide (fault h = 0)

theorem Thin_any (h : HeapD) (wv tv xv' : Value) (w : World) (hw : PairsAt w wv h.wet) (ht : IntsAt w tv h.turns) (hx : TriplesAt w xv' h.readings) :
    Calls Try.prog 18 #[hv h wv tv xv'] w (PV (.bool (thinB h)) w) := by
  have hl1 := hw.len
  have hl2 := ht.len
  have hl3 := hx.len
  obtain ⟨ow, cw, rfl⟩ := hw.open
  obtain ⟨ot, ct, rfl⟩ := ht.open
  obtain ⟨ox, cx, rfl⟩ := hx.open
  have HW := Lib.hid hw
  have HT := Lib.hid ht
  have HX := Lib.hid hx
  clear hw ht hx
  obtain ⟨q, hq⟩ : ∃ q, thinB h = q := ⟨_, rfl⟩
  rw [hq]
  have HQ := Lib.hid hq
  clear hq
  by_cases h1 : (h.wet.length : Int) ≤ 12
  case neg =>
    obtain rfl : q = false := by rw [← HQ.out]; simp [thinB]; omega
    go_enter Try.func18, Try.ntmps18
    go_wp2
    go_returns
    exact ⟨by simp, (by repeat (first | exact Below.refl _ _ | assumption | refine bgo ?_ (by assumption) | refine bgoAlloc ?_ _ | refine bgoDrew ?_ | refine bgoSet ?_ (by simp; omega) _))⟩
  by_cases h2 : (h.turns.length : Int) ≤ 12
  case neg =>
    obtain rfl : q = false := by rw [← HQ.out]; simp [thinB]; omega
    go_enter Try.func18, Try.ntmps18
    go_wp2
    go_returns
    exact ⟨by simp, (by repeat (first | exact Below.refl _ _ | assumption | refine bgo ?_ (by assumption) | refine bgoAlloc ?_ _ | refine bgoDrew ?_ | refine bgoSet ?_ (by simp; omega) _))⟩
  by_cases h3 : (h.readings.length : Int) ≤ 7
  case neg =>
    obtain rfl : q = false := by rw [← HQ.out]; simp [thinB]; omega
    go_enter Try.func18, Try.ntmps18
    go_wp2
    go_returns
    exact ⟨by simp, (by repeat (first | exact Below.refl _ _ | assumption | refine bgo ?_ (by assumption) | refine bgoAlloc ?_ _ | refine bgoDrew ?_ | refine bgoSet ?_ (by simp; omega) _))⟩
  by_cases h4 : fault h = 0
  case neg =>
    obtain rfl : q = true := by rw [← HQ.out]; simp [thinB, h4]; omega
    obtain ⟨f, hf⟩ : ∃ f, fault h = f := ⟨_, rfl⟩
    have h5 : (f != 0) = true := by rw [← hf]; simpa using h4
    have HFF := Lib.hid hf
    clear hf h4
    go_enter Try.func18, Try.ntmps18
    go_wp2_with fail
    refine (Fault_any h _ _ _ _ (HW.out.alloc _) (HT.out.alloc _) (HX.out.alloc _)).mono ?_
    rw [HFF.out]
    rintro e W1 ⟨rfl, hb⟩
    have HB := Lib.hid hb
    clear hb
    go_wp2_with fail
    go_returns
    exact ⟨by simp, bgo (bgoAlloc (Below.refl _ _) _) HB.out⟩
  have HR := Lib.hid (sound_of h4).ranges
  obtain ⟨m, hm⟩ : ∃ m, manyL h = m := ⟨_, rfl⟩
  obtain rfl : q = decide (m ≤ 100) := by
    rw [← HQ.out, ← hm]
    simp only [thinB]
    rw [decide_eq_true (show h.wet.length ≤ 12 by omega), decide_eq_true (show h.turns.length ≤ 12 by omega), decide_eq_true (show h.readings.length ≤ 7 by omega)]
    simp [h4]
  have HM := Lib.hid hm
  have H4 := Lib.hid h4
  clear hm h4
  go_enter Try.func18, Try.ntmps18
  go_wp2_with fail
  refine (Fault_any h _ _ _ _ (HW.out.alloc _) (HT.out.alloc _) (HX.out.alloc _)).mono ?_
  rw [H4.out]
  rintro e W1 ⟨rfl, hb⟩
  obtain ⟨hc, hf⟩ := bcell hb
  have hz0 : w.heap.size < W1.heap.size := by have := hb.size; simp only [World.size_alloc] at this; omega
  have HB := Lib.hid hb
  clear hb
  go_wp2_with fail
  refine (Many_any h _ _ _ _ ((HW.out.alloc _).below HB.out (Nat.le_refl _)) HR.out).mono ?_
  rw [HM.out]
  rintro e W2 ⟨rfl, hb⟩
  have HB2 := Lib.hid hb
  clear hb
  go_wp2_with fail
  go_returns
  exact ⟨by simp, bgo (bgo (bgoAlloc (Below.refl _ _) _) HB.out) HB2.out⟩

theorem ready_any (h : HeapD) (wv tv xv' : Value) (w : World) (hw : PairsAt w wv h.wet) (ht : IntsAt w tv h.turns) (hx : TriplesAt w xv' h.readings) :
    Calls Try.prog 33 #[hv h wv tv xv'] w (PV (.bool (readyB h)) w) := by
  obtain ⟨ow, cw, rfl⟩ := hw.open
  obtain ⟨ot, ct, rfl⟩ := ht.open
  obtain ⟨ox, cx, rfl⟩ := hx.open
  have HW := Lib.hid hw
  have HT := Lib.hid ht
  have HX := Lib.hid hx
  clear hw ht hx
  cases h1 : thinB h
  · rw [show readyB h = false from by simp [readyB, h1]]
    have H1 := Lib.hid h1
    clear h1
    go_enter Try.func33, Try.ntmps33
    go_wp2_with fail
    refine (Thin_any h _ _ _ _ (HW.out.alloc _) (HT.out.alloc _) (HX.out.alloc _)).mono ?_
    rw [H1.out]
    rintro e W1 ⟨rfl, hb⟩
    have HB := Lib.hid hb
    clear hb
    go_wp2_with fail
    go_returns
    exact ⟨by simp, bgo (bgoAlloc (Below.refl _ _) _) HB.out⟩
  · obtain ⟨f, hf⟩ : ∃ f, fault h = f := ⟨_, rfl⟩
    rw [show readyB h = (f == 0) from by simp [readyB, h1, hf]; rfl]
    have H1 := Lib.hid h1
    have HF := Lib.hid hf
    clear h1 hf
    go_enter Try.func33, Try.ntmps33
    go_wp2_with fail
    refine (Thin_any h _ _ _ _ (HW.out.alloc _) (HT.out.alloc _) (HX.out.alloc _)).mono ?_
    rw [H1.out]
    rintro e W1 ⟨rfl, hb⟩
    obtain ⟨hc, hf⟩ := bcell hb
    have hz0 : w.heap.size < W1.heap.size := by have := hb.size; simp only [World.size_alloc] at this; omega
    have HB := Lib.hid hb
    clear hb
    go_wp2_with fail
    refine (Fault_any h _ _ _ _ ((HW.out.alloc _).below HB.out (Nat.le_refl _)) ((HT.out.alloc _).below HB.out (Nat.le_refl _)) ((HX.out.alloc _).below HB.out (Nat.le_refl _))).mono ?_
    rw [HF.out]
    rintro e W2 ⟨rfl, hb⟩
    have HB2 := Lib.hid hb
    clear hb
    go_wp2_with fail
    go_returns
    exact ⟨by simp, bgo (bgo (bgoAlloc (Below.refl _ _) _) HB.out) HB2.out⟩

/-- A heap that a statement can use. -/
theorem ready_sound {h : HeapD} (hr : readyB h = true) : Sound h ∧ fault h = 0 ∧ manyL h ≤ 100 ∧ h.turns.length ≤ 12 := by
  simp only [readyB, thinB, Bool.and_eq_true, decide_eq_true_eq, Bool.or_eq_true] at hr
  obtain ⟨⟨_, h2, _, h3⟩, h4⟩ := hr
  exact ⟨sound_of h4, h4, h3.resolve_left (fun h => h h4), h2⟩

end Go.Proofs.Ytoibfafmnaooaaa

namespace Go.Proofs.Ytoibfafmnaooaaa
open Go.RowKit Go.RG Go.SL Go.Shelf Cou
set_option maxHeartbeats 400000
set_option maxRecDepth 10000

theorem tRanges4 : SliceT Try.prog 24 23 (rv (0, 0)) 2 16 := ⟨Try.underlying24, by kernel_rfl, rfl, by omega⟩
theorem tReadings4 : SliceT Try.prog 26 79 (xv (0, 0, 0)) 3 24 := ⟨Try.underlying26, by kernel_rfl, rfl, by omega⟩

theorem owns_ext' {w w' : World} {base : Nat} {e : TypeId} {size : Nat} {v : Value} {n : Nat} {xs : List Value} (h : w.ownsRow base e size v n xs) {Ms : List Nat} (hE : Ext Ms w w') (hM : ∀ x ∈ Ms, v.ownBlock ≠ some x) : w'.ownsRow base e size v n xs :=
  owns_keep h fun g hg => hE.block g (owns_ge h g hg).2 fun hm => hM g hm hg

/-- A heap by value that reads as h, in a world; nothing that was there has turned. -/
theorem Heap_any (h : HeapD) (wv tv xv' : Value) (w : World) (hw : PairsAt w wv h.wet) (ht : IntsAt w tv h.turns) (hx : TriplesAt w xv' h.readings) (hlw : h.wet.length ≤ 1000) (hlt : h.turns.length ≤ 1000) (hlx : h.readings.length ≤ 1000) :
    Calls Try.prog 21 #[hv h wv tv xv'] w (PHeap h w) := by
  obtain ⟨ow, cw, rfl⟩ := hw.open
  obtain ⟨ot, ct, rfl⟩ := ht.open
  obtain ⟨ox, cx, rfl⟩ := hx.open
  have HW := Lib.hid hw
  have HT := Lib.hid ht
  have HX := Lib.hid hx
  clear hw ht hx
  go_enter Try.func21, Try.ntmps21
  go_wp2_with fail
  refine gworld fun W1 hW1 => ?_
  have HB1 := Lib.hid (show Below w.heap.size w W1 from by rw [hW1]; exact (by repeat (first | exact Below.refl _ _ | assumption | refine bgo ?_ (by assumption) | refine bgoAlloc ?_ _ | refine bgoDrew ?_ | refine bgoSet ?_ (by simp; omega) _)))
  have hA0 : W1.heap[w.heap.size]? = some (.cells #[.int .i64 h.last, .int .i64 h.size, .int .i64 h.cool, .int .i64 h.die, .int .i64 h.burn, .int .i64 h.start.1, .int .i64 h.start.2, .slice ow h.wet.length cw, .slice ot h.turns.length ct, .slice ox h.readings.length cx] 28 (0, 0)) := by rw [hW1]; exact (Below.heap_alloc _ _ _ (by first | omega | (simp; done) | (simp; omega))).trans (heap_new0 _ _)
  have hA1 : W1.heap[w.heap.size + 1]? = some (.cells #[iv 0, iv 0, iv 0, iv 0, iv 0, iv 0, iv 0, .slice none 0 0, .slice none 0 0, .slice none 0 0] 40 (0, 0)) := by rw [hW1]; exact heap_new1 _ _ _
  have s0 := (Array.getElem?_eq_some_iff.1 hA0).1
  have s1 := (Array.getElem?_eq_some_iff.1 hA1).1
  have hcr := (cells_of_block hA0).1
  have HA := Lib.hid (And.intro hA0 hA1)
  clear hA0 hA1 hW1
  refine wp_region_rg 18 [] none [(12, Spec.val (rv h.start)), (15, ⟨fun _ v => ∃ o c, v = .slice o h.turns.length c, fun _ v Wx => Wx.ownsRow W1.heap.size 3 1 v h.turns.length (intCells h.turns)⟩), (17, Spec.block W1.heap.size #[iv 0, iv 0, iv 0, iv 0, iv 0, iv 0, iv 0, .slice none 0 0, .slice none 0 0, .slice none 0 0] 40)] (by kernel_rfl) (by kernel_rfl) ?_
  simp only [List.take_succ_cons, List.take_zero, List.drop_succ_cons, List.drop_zero]
  repeat (first | (refine tree_det (by rfl) _ (by rfl) (fun W hW => by go_simp; (try simp (disch := omega) only [IntWalk.i64_in]); try rfl) ?_; simp only [Act.put, List.setIfInBounds_toArray, List.set_cons_succ, List.set_cons_zero]) | (refine tree_skip (by rfl) (by rfl) ?_; simp only [Act.put, List.setIfInBounds_toArray, List.set_cons_succ, List.set_cons_zero]))
  refine tree_val _ (by rfl) (by rfl) 52 _ (fun W hW => by go_simp; try rfl) (fun W hE hF => by exact to_any h.start W) ?_
  simp only [Act.put, List.setIfInBounds_toArray, List.set_cons_succ, List.set_cons_zero]
  repeat (first | (refine tree_det (by rfl) _ (by rfl) (fun W hW => by go_simp; (try simp (disch := omega) only [IntWalk.i64_in]); try rfl) ?_; simp only [Act.put, List.setIfInBounds_toArray, List.set_cons_succ, List.set_cons_zero]) | (refine tree_skip (by rfl) (by rfl) ?_; simp only [Act.put, List.setIfInBounds_toArray, List.set_cons_succ, List.set_cons_zero]))
  refine tree_some _ (by rfl) (by rfl) (by exact ⟨.slice none (h.turns).length 0, none, 0, rfl⟩) (fun W hE hF => ?_) (fun v Wa Wb ho hE => owns_ext (Ms := []) ho hE (by simp)) (fun v hv => ?_)
  · have hE' : Ext [] W1 W := hE
    refine does_enter 22 #[.slice ot h.turns.length ct] (by go_simp; try rfl) ?_
    refine (list_any (h.turns) _ W ((HT.out.below HB1.out (Nat.le_refl _)).below hE'.below (Nat.le_refl _)) (by omega)).mono ?_
    rintro e W6 ⟨v, rfl, ho, hb⟩
    exact ⟨v, rfl, owns_slice ho, owns_base ho hE'.size, Ext.of_below hb⟩
  obtain ⟨o5, c5, rfl⟩ := hv
  simp only [Act.put, List.setIfInBounds_toArray, List.set_cons_succ, List.set_cons_zero]
  repeat (first | (refine tree_det (by rfl) _ (by rfl) (fun W hW => by go_simp; (try simp (disch := omega) only [IntWalk.i64_in]); try rfl) ?_; simp only [Act.put, List.setIfInBounds_toArray, List.set_cons_succ, List.set_cons_zero]) | (refine tree_skip (by rfl) (by rfl) ?_; simp only [Act.put, List.setIfInBounds_toArray, List.set_cons_succ, List.set_cons_zero]))
  refine tree_block W1.heap.size _ _ (by rfl) (Nat.le_refl _) (by rfl) (by simp) (by simp) (fun W hW => by go_simp; try rfl) (fun b3 => ?_)
  simp only [Act.put, List.setIfInBounds_toArray, List.set_cons_succ, List.set_cons_zero]
  intro W2 hE hF
  have hE' : Ext [] W1 W2 := hE
  obtain ⟨b3', hb3, hbB, hblk⟩ := hF _ (List.Mem.head _)
  cases hb3
  have hown : W2.ownsRow W1.heap.size 3 1 (.slice o5 h.turns.length c5) h.turns.length (intCells h.turns) := hF _ (List.Mem.tail _ (List.Mem.head _))
  obtain ⟨ys, hys⟩ : ∃ ys : List Value, ys = [iv h.last, iv h.size, iv h.cool, iv h.die, iv h.burn, iv h.start.1, iv h.start.2, .slice none 0 0, .slice o5 h.turns.length c5, .slice none 0 0] := ⟨_, rfl⟩
  have eys : #[iv h.last, iv h.size, iv h.cool, iv h.die, iv h.burn, iv h.start.1, iv h.start.2, .slice none 0 0, .slice o5 h.turns.length c5, .slice none 0 0] = ys.toArray := by rw [hys]
  have hyl : ys.length = 10 := by rw [hys]; rfl
  obtain ⟨W3, hst, hblk3, hE3⟩ := store_vals Try.prog ys (by rw [hys]; intro u hu; simp at hu; rcases hu with rfl | rfl | rfl | rfl | rfl | rfl | rfl | rfl | rfl | rfl <;> rfl) hblk (by rw [hyl]; rfl)
  have hb3 : w.heap.size + 2 ≤ b3 := by omega
  have hbl := (Array.getElem?_eq_some_iff.1 hblk).1
  have hz3 := hE3.size
  have hz2 := hE'.size
  have hA03 : W3.heap[w.heap.size]? = some (.cells #[.int .i64 h.last, .int .i64 h.size, .int .i64 h.cool, .int .i64 h.die, .int .i64 h.burn, .int .i64 h.start.1, .int .i64 h.start.2, .slice ow h.wet.length cw, .slice ot h.turns.length ct, .slice ox h.readings.length cx] 28 (0, 0)) := (hE3.block _ (by omega) (by simp; omega)).trans ((hE'.block _ s0 (by simp)).trans HA.out.1)
  have hA13 : W3.heap[w.heap.size + 1]? = some (.cells #[iv 0, iv 0, iv 0, iv 0, iv 0, iv 0, iv 0, .slice none 0 0, .slice none 0 0, .slice none 0 0] 40 (0, 0)) := (hE3.block _ (by omega) (by simp; omega)).trans ((hE'.block _ s1 (by simp)).trans HA.out.2)
  have hB3 : Below w.heap.size w W3 := below_of_ext (bgo HB1.out hE'.below) hE3 (by omega)
  have hne : ∀ g, (Value.slice o5 h.turns.length c5).ownBlock = some g → g ≠ b3 := fun g hg e => by
    subst e
    obtain ⟨_, ⟨h1, _⟩ | ⟨g', c, cs, h1, _, h2, _⟩⟩ := hown
    · rw [h1] at hg; cases hg
    · rw [h1] at hg
      have : g' = g := by simpa [Value.ownBlock] using hg
      subst this
      rw [h2] at hblk
      simp at hblk
  have hown3 := owns_ext' hown hE3 (fun x hx => by simp at hx; subst hx; exact fun e => hne _ e rfl)
  have HT3 := Lib.hid (show _ ∧ _ from And.intro (SlAt.of_owns hown3) (fun g hg => And.intro (owns_ge hown3 g hg).2 (And.intro (hne g hg) (show w.heap.size + 2 ≤ g from by have := (owns_ge hown3 g hg).1; omega))))
  have hblk3' : W3.heap[b3]? = some (.cells #[iv h.last, iv h.size, iv h.cool, iv h.die, iv h.burn, iv h.start.1, iv h.start.2, .slice none 0 0, .slice o5 h.turns.length c5, .slice none 0 0] 40 (0, 0)) := by rw [eys]; exact hblk3
  rw [eys]
  have hbb : b3 < W3.heap.size := by omega
  have hW3 : w.heap.size + 2 < W3.heap.size := by omega
  have HA3 := Lib.hid (And.intro hA03 (And.intro hA13 hblk3'))
  have HB3 := Lib.hid hB3
  clear hys eys hE hF hE' hblk hown hblk3 hE3 hA03 hA13 hB3 hne hown3 hblk3' hcr s0 s1 hz2 hz3 hbl
  go_wp2_with fail
  clear hst
  go_loopw [4] (fun u wr => ∃ k : Nat, k ≤ h.wet.length ∧ u = .int .i64 k ∧ ∃ oo oc, wr.heap[b3]? = some (.cells #[iv h.last, iv h.size, iv h.cool, iv h.die, iv h.burn, iv h.start.1, iv h.start.2, .slice oo k oc, .slice o5 h.turns.length c5, .slice none 0 0] 40 (0, 0)) ∧
      wr.ownsRow W3.heap.size 36 2 (.slice oo k oc) k (pairCells (h.wet.take k)) ∧ Below w.heap.size w wr ∧ W3.heap.size ≤ wr.heap.size ∧ ∀ c, c < W3.heap.size → c ≠ b3 → wr.heap[c]? = W3.heap[c]?) (fun u _ => h.wet.length - (intOf u).toNat)
  case atStart => exact ⟨0, Nat.zero_le _, rfl, none, 0, HA3.out.2.2, ⟨rfl, .inl ⟨rfl, rfl⟩⟩, HB3.out, Nat.le_refl _, fun _ _ _ => rfl⟩
  case round =>
    obtain ⟨k, hk, rfl, oo, oc, hblk, hown, hB, hsw, hkeep⟩ := hrel
    obtain ⟨hcr0, _, hsr0⟩ := cells_of_block ((hkeep w.heap.size (by omega) (by omega)).trans HA3.out.1)
    obtain ⟨hcr2, hfr2, hsr2⟩ := cells_of_block hblk
    have hHW := HW.out.below hB (Nat.le_refl _)
    have HK := Lib.hid (And.intro hblk (And.intro hown (And.intro hB (And.intro hsw hkeep))))
    clear hblk hown hB hsw hkeep
    by_cases hlk : k < h.wet.length
    · obtain ⟨b, off, rfl, hb1, d1, d2⟩ := PairsAt.cell hHW hlk
      have hltI : (k : Int) < h.wet.length := by omega
      have htk : pairCells (h.wet.take (k + 1)) = pairCells (h.wet.take k) ++ pairCells [h.wet[k]] := by
        rw [List.take_succ_eq_append_getElem hlk, pairCells_snoc]
      clear hHW
      generalize h.wet[k] = x at *
      have HTK := Lib.hid htk
      clear htk
      go_wp2_with fail
      refine wp_region_rg 9 [] none [(7, Spec.val (rv x)), (8, Spec.slice wr.heap.size #[iv x.1, iv x.2] 36 1)] (by kernel_rfl) (by kernel_rfl) ?_
      simp only [List.take_succ_cons, List.take_zero, List.drop_succ_cons, List.drop_zero]
      repeat (first | (refine tree_det (by rfl) _ (by rfl) (fun W hW => by go_simp; (try simp (disch := omega) only [IntWalk.i64_in]); try rfl) ?_; simp only [Act.put, List.setIfInBounds_toArray, List.set_cons_succ, List.set_cons_zero]) | (refine tree_skip (by rfl) (by rfl) ?_; simp only [Act.put, List.setIfInBounds_toArray, List.set_cons_succ, List.set_cons_zero]))
      refine tree_val _ (by rfl) (by rfl) 52 _ (fun W hW => by go_simp; try rfl) (fun W hE hF => by exact to_any x W) ?_
      simp only [Act.put, List.setIfInBounds_toArray, List.set_cons_succ, List.set_cons_zero]
      refine tree_slice wr.heap.size _ _ _ (by rfl) (Nat.le_refl _) (by rfl) (by simp) (by simp) (fun W hW => by go_simp; try rfl) (fun b8 => ?_)
      simp only [Act.put, List.setIfInBounds_toArray, List.set_cons_succ, List.set_cons_zero]
      intro W5 hE5 hF5
      have hE5' : Ext [] wr W5 := hE5
      obtain ⟨b8', hb8, hbB8, hblk8⟩ := hF5 _ (List.Mem.head _)
      cases hb8
      have HE5 := Lib.hid hE5'
      have HBK := Lib.hid hblk8
      have HOW5 := Lib.hid (owns_ext (Ms := []) HK.out.2.1 hE5' (by simp))
      have hz5 := hE5'.size
      have hsw := HK.out.2.2.2.1
      clear hE5 hF5 hE5' hblk8
      go_wp2_with (at_builtin; go_loud (refine wpList_append_at rfl _ _ tPairs rfl W3.heap.size (.slice oo k oc) k (pairCells (h.wet.take k)) rfl HOW5.out (.slice (some ⟨b8, 0, none⟩) 1 1) 1 (pairCells [x]) rfl (SlAt.of_block 2 1 HBK.out rfl (by decide)) (one_pairs _) (by omega) (by omega) (by omega) ?_))
      intro v' W6 hown6 hgr6 _
      obtain ⟨o6, c6, rfl⟩ := owns_slice hown6
      have HP := Lib.hid (ap_push (i := 7) (u := .slice o6 (k + 1) c6) HK.out.2.2.1 HK.out.2.1 HE5.out hown6 hgr6 hsw hbb (by omega) HK.out.1)
      obtain ⟨hcr6, hfr6, hsr6⟩ := cells_of_block (((ap_push0 HK.out.2.2.1 HK.out.2.1 HE5.out hown6 hgr6 (by omega) hsw).2.2 b3 hbb).trans HK.out.1)
      clear hown6 hgr6
      go_wp2_with fail
      go_roundw
      case rel =>
        refine ⟨k + 1, by omega, by go_num, o6, c6, ?_⟩
        rw [HTK.out]
        exact ⟨HP.out.2.2.2.1, HP.out.2.2.1, HP.out.1, HP.out.2.1, fun c hc hne => (HP.out.2.2.2.2 c hc hne).trans (HK.out.2.2.2.2 c hc hne)⟩
      case measure => simp [intOf]; omega
    · obtain rfl : k = h.wet.length := by omega
      have HWT := Lib.hid (show wr.ownsRow W3.heap.size 36 2 (.slice oo h.wet.length oc) h.wet.length (pairCells h.wet) from by have := HK.out.2.1; rwa [List.take_length] at this)
      clear hHW hcr2 hfr2
      go_wp2_with fail
      clear hcr0
      have HA4 := Lib.hid (show wr.heap[w.heap.size]? = _ ∧ wr.heap[w.heap.size + 1]? = _ ∧ SlAt 1 wr (.slice o5 h.turns.length c5) h.turns.length (intCells h.turns) ∧ (∀ g, (Value.slice o5 h.turns.length c5).ownBlock = some g → g < wr.heap.size ∧ g ≠ b3 ∧ w.heap.size + 2 ≤ g) from
        ⟨(HK.out.2.2.2.2 w.heap.size (by omega) (by omega)).trans HA3.out.1, (HK.out.2.2.2.2 (w.heap.size + 1) (by omega) (by omega)).trans HA3.out.2.1,
          HT3.out.1.kept (fun b off n c hv _ => HK.out.2.2.2.2 b (HT3.out.2 b (by rw [hv]; rfl)).1 (HT3.out.2 b (by rw [hv]; rfl)).2.1), fun g hg => ⟨by have := (HT3.out.2 g hg).1; have := HK.out.2.2.2.1; omega, (HT3.out.2 g hg).2⟩⟩)
      have HWN := Lib.hid (show ∀ g, (Value.slice oo h.wet.length oc).ownBlock = some g → g < wr.heap.size ∧ g ≠ b3 from fun g hg => ⟨(owns_ge HWT.out g hg).2, by have := (owns_ge HWT.out g hg).1; omega⟩)
      have HK4 := Lib.hid (show wr.heap[b3]? = _ ∧ Below w.heap.size w wr from ⟨HK.out.1, HK.out.2.2.1⟩)
      have hb4 : b3 < wr.heap.size := by have := HK.out.2.2.2.1; omega
      clear HA3 HT3 HB3 HK hsr0 hsr2 hlk hk hbb
      obtain ⟨W4, rfl⟩ : ∃ W4 : World, W4 = wr := ⟨_, rfl⟩
      go_loopw [5] (fun u wq => ∃ k : Nat, k ≤ h.readings.length ∧ u = .int .i64 k ∧ ∃ o2 c2, wq.heap[b3]? = some (.cells #[iv h.last, iv h.size, iv h.cool, iv h.die, iv h.burn, iv h.start.1, iv h.start.2, .slice oo h.wet.length oc, .slice o5 h.turns.length c5, .slice o2 k c2] 40 (0, 0)) ∧
          wq.ownsRow W4.heap.size 104 3 (.slice o2 k c2) k (tripleCells (h.readings.take k)) ∧ Below w.heap.size w wq ∧ W4.heap.size ≤ wq.heap.size ∧ ∀ c, c < W4.heap.size → c ≠ b3 → wq.heap[c]? = W4.heap[c]?) (fun u _ => h.readings.length - (intOf u).toNat)
      case atStart => exact ⟨0, Nat.zero_le _, rfl, none, 0, HK4.out.1, ⟨rfl, .inl ⟨rfl, rfl⟩⟩, HK4.out.2, Nat.le_refl _, fun _ _ _ => rfl⟩
      case round =>
        obtain ⟨k, hk, rfl, o2, c2, hblk, hown, hB, hsw, hkeep⟩ := hrel
        obtain ⟨hcr0, _, hsr0⟩ := cells_of_block ((hkeep w.heap.size (by omega) (by omega)).trans HA4.out.1)
        obtain ⟨hcr2, hfr2, hsr2⟩ := cells_of_block hblk
        have hHX := HX.out.below hB (Nat.le_refl _)
        have HK := Lib.hid (And.intro hblk (And.intro hown (And.intro hB (And.intro hsw hkeep))))
        clear hblk hown hB hsw hkeep
        by_cases hlk : k < h.readings.length
        · obtain ⟨b, off, rfl, hb1, d1, d2, d3⟩ := TriplesAt.cell hHX hlk
          have hltI : (k : Int) < h.readings.length := by omega
          have htk : tripleCells (h.readings.take (k + 1)) = tripleCells (h.readings.take k) ++ tripleCells [h.readings[k]] := by
            rw [List.take_succ_eq_append_getElem hlk, tripleCells_snoc]
          clear hHX
          generalize h.readings[k] = x at *
          have HTK := Lib.hid htk
          clear htk
          have HE5 := Lib.hid (show Ext [] wr ((wr.alloc (.cells #[iv x.1, iv x.2.1, iv x.2.2] 79)).alloc (.cells #[iv x.1, iv x.2.1, iv x.2.2] 104)) from Ext.of_below (((Below.refl _ _).alloc (Nat.le_refl _) _).alloc (by simp) _))
          have HOW5 := Lib.hid (owns_ext (Ms := []) HK.out.2.1 HE5.out (by simp))
          have hsw := HK.out.2.2.2.1
          go_wp2_with (at_builtin; go_loud (refine wpList_append_at rfl _ _ tTriples rfl W4.heap.size (.slice o2 k c2) k (tripleCells (h.readings.take k)) rfl HOW5.out (.slice (some ⟨wr.heap.size + 1, 0, none⟩) 1 1) 1 (tripleCells [x]) rfl (SlAt.of_block 3 1 (heap_new1 _ _ _) rfl (by decide)) (one_triples _) (by omega) (by omega) (by simp; omega) ?_))
          intro v' W6 hown6 hgr6 _
          obtain ⟨o6, c6, rfl⟩ := owns_slice hown6
          have HP := Lib.hid (ap_push (i := 9) (u := .slice o6 (k + 1) c6) HK.out.2.2.1 HK.out.2.1 HE5.out hown6 hgr6 hsw hb4 (by omega) HK.out.1)
          obtain ⟨hcr6, hfr6, hsr6⟩ := cells_of_block (((ap_push0 HK.out.2.2.1 HK.out.2.1 HE5.out hown6 hgr6 (by omega) hsw).2.2 b3 hb4).trans HK.out.1)
          clear hown6 hgr6
          go_wp2_with fail
          go_roundw
          case rel =>
            refine ⟨k + 1, by omega, by go_num, o6, c6, ?_⟩
            rw [HTK.out]
            exact ⟨HP.out.2.2.2.1, HP.out.2.2.1, HP.out.1, HP.out.2.1, fun c hc hne => (HP.out.2.2.2.2 c hc hne).trans (HK.out.2.2.2.2 c hc hne)⟩
          case measure => simp [intOf]; omega
        · obtain rfl : k = h.readings.length := by omega
          clear hHX
          have hres := (HK.out.2.2.2.2 (w.heap.size + 1) (by omega) (by omega)).trans HA4.out.2.1
          obtain ⟨hcr1, hfr1, hsr1⟩ := cells_of_block hres
          have HRES := Lib.hid hres
          clear hres
          go_wp2_with fail
          refine bodyPost_ret (v := hv h (.slice oo h.wet.length oc) (.slice o5 h.turns.length c5) (.slice o2 h.readings.length c2)) (results_cell_row Try.results21 _ _ (w.heap.size + 1) _ _ (0, 0) _ rfl (set_ten HRES.out _ _ _ _ _ _ _ _ _ _) Try.underlying40 rfl (by kernel_rfl)) rfl ?_
          refine ⟨_, _, _, rfl, ?_, ?_, ?_, ten_below (by omega) HK.out.2.2.1 _ _ _ _ _ _ _ _ _ _⟩
          · refine (SlAt.of_owns HWT.out).kept fun b off n c hv _ => ?_
            have hg := HWN.out b (by rw [hv]; rfl)
            have hge := (owns_ge HWT.out b (by rw [hv]; rfl)).1
            exact (ten_other (by omega) _ _ _ _ _ _ _ _ _ _).trans (HK.out.2.2.2.2 b hg.1 hg.2)
          · refine HA4.out.2.2.1.kept fun b off n c hv _ => ?_
            have hg := HA4.out.2.2.2 b (by rw [hv]; rfl)
            exact (ten_other (by have := hg.2.2; omega) _ _ _ _ _ _ _ _ _ _).trans (HK.out.2.2.2.2 b hg.1 hg.2.1)
          · have := HK.out.2.1
            rw [List.take_length] at this
            refine SlAt.of_owns (owns_keep this fun g hg => ten_other ?_ _ _ _ _ _ _ _ _ _ _)
            have := (owns_ge HK.out.2.1 g hg).1
            omega

end Go.Proofs.Ytoibfafmnaooaaa

namespace Go.Proofs.Ytoibfafmnaooaaa
open Go.RowKit Go.RG Go.SL Go.Shelf Cou
set_option maxHeartbeats 400000
set_option maxRecDepth 10000

theorem pow_bd {k P : Nat} (h : k ≤ P) : (1 : Int) ≤ 2 ^ k ∧ (2 : Int) ^ k ≤ 2 ^ P := by
  have h1 : 2 ^ k ≤ 2 ^ P := Nat.pow_le_pow_right (by omega) h
  have h2 : 1 ≤ 2 ^ k := Nat.one_le_two_pow
  exact ⟨by exact_mod_cast h2, by exact_mod_cast h1⟩

theorem Full_any (h : HeapD) (wv tv xv' : Value) (w : World) (hx : TriplesAt w xv' h.readings) (hr : h.readings.length ≤ 5) :
    Calls Try.prog 47 #[hv h wv tv xv'] w (PV (iv (2 ^ h.readings.length - 1)) w) := by
  obtain ⟨ox, cx, rfl⟩ := hx.open
  have HX := Lib.hid hx
  clear hx
  obtain ⟨hp1, hp2⟩ := pow_bd hr
  generalize hn : h.readings.length = n at *
  have HN := Lib.hid hn
  clear hn
  go_enter Try.func47, Try.ntmps47
  go_wp2_with fail
  go_returns
  exact ⟨by simp, (by repeat (first | exact Below.refl _ _ | assumption | refine bgo ?_ (by assumption) | refine bgoAlloc ?_ _ | refine bgoDrew ?_ | refine bgoSet ?_ (by simp; omega) _))⟩

/-- It returns a list that reads so; nothing that was there has turned. -/
def PInts (l : List Int) (w : World) (e : Ending) (w' : World) : Prop := ∃ v, e = .returned v ∧ IntsAt w' v l ∧ Below w.heap.size w w'

theorem bit_at (n p : Nat) : (((n / 2 ^ p : Nat) : Int) % 2 == 1) = n.testBit p := by
  rw [Nat.testBit_eq_decide_div_mod_eq, Bool.eq_iff_iff, beq_iff_eq, decide_eq_true_eq]
  generalize n / 2 ^ p = d
  omega

theorem intCells_app (l : List Int) (x : Int) : intCells (l ++ [x]) = intCells l ++ intCells [x] := by simp [intCells]

set_option maxHeartbeats 1000000 in
theorem Bits_any (n P : Nat) (w : World) (hn : n < 2 ^ P) (hP : P ≤ 16) : Calls Try.prog 49 #[iv n] w (PInts (bitsL n) w) := by
  have hnI : (n : Int) ≤ 65536 := by
    have : 2 ^ P ≤ 2 ^ 16 := Nat.pow_le_pow_right (by omega) hP
    omega
  have HN := Lib.hid hn
  clear hn
  go_enter Try.func49, Try.ntmps49
  go_wp2_with fail
  go_loopw [3, 4] (fun o u wr => ∃ p : Nat, p ≤ P ∧ u = .int .i64 p ∧ ∃ oo oc, o = .slice oo (bitsTo n p).length oc ∧ wr.ownsRow w.heap.size 3 1 (.slice oo (bitsTo n p).length oc) (bitsTo n p).length (intCells (bitsTo n p)) ∧ Below w.heap.size w wr) (fun _ u _ => P - (intOf u).toNat)
  case atStart => exact ⟨0, Nat.zero_le _, rfl, none, 0, rfl, ⟨rfl, .inl ⟨rfl, rfl⟩⟩, Below.refl _ _⟩
  case round =>
    obtain ⟨p, hp, rfl, oo, oc, rfl, hown, hB⟩ := hrel
    have hlen := bitsTo_len n p
    have hdI : (n : Int) / 2 ^ p = ((n / 2 ^ p : Nat) : Int) := by norm_cast
    have hbit := bit_at n p
    have hdle : n / 2 ^ p ≤ n := Nat.div_le_self _ _
    have hz : n / 2 ^ p = 0 → n < 2 ^ p := fun h => by
      rcases Nat.lt_or_ge n (2 ^ p) with h1 | h1
      · exact h1
      · have := Nat.div_pos h1 (Nat.two_pow_pos p); omega
    have hge : P ≤ p → n / 2 ^ p = 0 := fun h => Nat.div_eq_of_lt (Nat.lt_of_lt_of_le HN.out (Nat.pow_le_pow_right (by omega) h))
    generalize n / 2 ^ p = d at *
    have hd1 : (d : Int) ≤ 65536 := by omega
    have HZ := Lib.hid hz
    have HOW := Lib.hid hown
    have HB := Lib.hid hB
    by_cases hd0 : 0 < d
    · have hpP : p < P := by
        rcases Nat.lt_or_ge p P with h1 | h1
        · exact h1
        · have := hge h1; omega
      have hd0I : (0 : Int) < d := by omega
      clear hge hz hown hB
      cases hb : n.testBit p
      · rw [hb] at hbit
        have hno := bitsTo_no hb
        have HNO := Lib.hid hno
        clear hno hb
        go_wp2_with fail
        go_roundw
        case rel =>
          refine ⟨p + 1, by omega, by go_num, oo, oc, ?_⟩
          rw [HNO.out]
          exact ⟨rfl, HOW.out, HB.out⟩
        case measure => simp [intOf]; omega
      · rw [hb] at hbit
        have hyes := bitsTo_yes hb
        have HYES := Lib.hid hyes
        clear hyes hb
        have hz := HB.out.size
        go_wp2_with (at_builtin; go_loud (refine wpList_append_at rfl _ _ tInts rfl w.heap.size (.slice oo (bitsTo n p).length oc) (bitsTo n p).length (intCells (bitsTo n p)) rfl (owns_ext (Ms := []) HOW.out (Ext.of_below ((Below.refl _ _).alloc (Nat.le_refl _) _)) (by simp)) (.slice (some ⟨wr.heap.size, 0, none⟩) 1 1) 1 (intCells [(p : Int)]) rfl (SlAt.of_block 1 1 (heap_new0 _ _) rfl (by decide)) (one_ints _) (by omega) (by omega) (by simp; omega) ?_))
        intro v' W6 hown6 hgr6 _
        obtain ⟨o6, c6, rfl⟩ := owns_slice hown6
        have hpu := ap_push0 HB.out HOW.out (Ext.of_below ((Below.refl _ _).alloc (Nat.le_refl _) _)) hown6 hgr6 (Nat.le_refl _) hz
        have HP := Lib.hid hpu
        have HO6 := Lib.hid hown6
        clear hpu hown6 hgr6
        go_wp2_with fail
        go_roundw
        case rel =>
          have e : (bitsTo n (p + 1)).length = (bitsTo n p).length + 1 := by rw [HYES.out]; simp
          refine ⟨p + 1, by omega, by go_num, o6, c6, by rw [e], ?_, HP.out.1⟩
          rw [e, HYES.out, intCells_app]
          exact HO6.out
        case measure => simp [intOf]; omega
    · obtain rfl : d = 0 := by omega
      clear hge hz hown hB
      go_wp2_with fail
      go_returns
      refine ⟨.slice oo (bitsTo n p).length oc, by simp, ?_, HB.out⟩
      rw [bitsL_eq (HZ.out (by trivial))]
      exact SlAt.of_owns HOW.out

/-! ### Before, Shorter -/
theorem before_drop : ∀ (k : Nat) (a b : List Int), k ≤ a.length → k ≤ b.length → (∀ j, j < k → a.getD j 0 = b.getD j 0) → before a b = before (a.drop k) (b.drop k) := by
  intro k
  induction k with
  | zero => intro a b _ _ _; simp
  | succ k ih =>
    intro a b ha hb h
    cases a with
    | nil => simp at ha
    | cons x a =>
      cases b with
      | nil => simp at hb
      | cons y b =>
        have h0 := h 0 (by omega)
        simp only [List.getD_cons_zero] at h0
        subst h0
        simp only [before, if_true, List.drop_succ_cons]
        exact ih a b (by simpa using ha) (by simpa using hb) (fun j hj => by simpa using h (j + 1) (by omega))
theorem before_ne {k : Nat} {a b : List Int} (ha : k < a.length) (hb : k < b.length) (h : ∀ j, j < k → a.getD j 0 = b.getD j 0) (hne : a[k] ≠ b[k]) : before a b = decide (a[k] < b[k]) := by
  rw [before_drop k a b (by omega) (by omega) h, List.drop_eq_getElem_cons ha, List.drop_eq_getElem_cons hb]
  simp only [before]
  rw [if_neg hne]
theorem before_end {k : Nat} {a b : List Int} (ha : k ≤ a.length) (hb : k ≤ b.length) (h : ∀ j, j < k → a.getD j 0 = b.getD j 0) (hk : k = a.length ∨ k = b.length) : before a b = decide (a.length < b.length) := by
  rw [before_drop k a b ha hb h]
  by_cases e : k = a.length
  · subst e
    rw [List.drop_length]
    simp only [before]
    rw [Bool.eq_iff_iff]
    simp
  · have e2 : k = b.length := by omega
    subst e2
    rw [List.drop_length, List.drop_eq_getElem_cons (by omega)]
    simp only [before]
    rw [eq_comm, decide_eq_false_iff_not]
    omega

set_option maxHeartbeats 1000000 in
theorem Before_any (a b : List Int) (v u : Value) (w : World) (hv : IntsAt w v a) (hu : IntsAt w u b) : Calls Try.prog 88 #[v, u] w (PV (.bool (before a b)) w) := by
  obtain ⟨o, c, rfl⟩ := hv.open
  obtain ⟨o2, c2, rfl⟩ := hu.open
  have hl1 := hv.len
  have hl2 := hu.len
  obtain ⟨q, hq⟩ : ∃ q, before a b = q := ⟨_, rfl⟩
  rw [hq]
  have HQ := Lib.hid hq
  have HV := Lib.hid hv
  have HU := Lib.hid hu
  clear hv hu hq
  go_enter Try.func88, Try.ntmps88
  go_wp2_with fail
  go_loopw [5] (fun u wr => ∃ k : Nat, k ≤ a.length ∧ k ≤ b.length ∧ u = .int .i64 k ∧ Below w.heap.size w wr ∧ ∀ j, j < k → a.getD j 0 = b.getD j 0) (fun u _ => a.length - (intOf u).toNat)
  case atStart => exact ⟨0, Nat.zero_le _, Nat.zero_le _, rfl, Below.refl _ _, fun j hj => by omega⟩
  case round =>
    obtain ⟨k, hk, hk2, rfl, hB, hno⟩ := hrel
    have HN := Lib.hid hno
    clear hno
    by_cases hlt : k < a.length
    · have hltI : (k : Int) < a.length := by omega
      by_cases hlm : k < b.length
      · have hlmI : (k : Int) < b.length := by omega
        obtain ⟨b1, off, rfl, hb1, d1⟩ := IntsAt.cell (HV.out.below hB (Nat.le_refl _)) hlt
        obtain ⟨b2, off', rfl, hb2, d2⟩ := IntsAt.cell (HU.out.below hB (Nat.le_refl _)) hlm
        have g1 : a.getD k 0 = a[k] := by simp [List.getD, hlt]
        have g2 : b.getD k 0 = b[k] := by simp [List.getD, hlm]
        have HNE := Lib.hid (before_ne hlt hlm HN.out)
        generalize a[k] = x at *
        generalize b[k] = y at *
        have HG := Lib.hid (And.intro g1 g2)
        have HB := Lib.hid hB
        clear g1 g2 hB
        by_cases hxy : x = y
        · have hxyb : (x != y) = false := by simpa using hxy
          go_wp2_with fail
          refine wp_region_rg 9 [] none [] (by kernel_rfl) (by kernel_rfl) ?_
          simp only [List.take_succ_cons, List.take_zero, List.drop_succ_cons, List.drop_zero]
          repeat (refine tree_det (by rfl) _ (by rfl) (fun W hW => by go_simp; (try simp (disch := omega) only [IntWalk.i64_in]); try rfl) ?_; simp only [Act.put, List.setIfInBounds_toArray, List.set_cons_succ, List.set_cons_zero])
          intro W hE hF
          obtain ⟨hc, hf⟩ := bcell hE.below
          have hzE := hE.size
          (try simp only [World.size_alloc] at hzE)
          have HE := Lib.hid hE
          clear hE hF
          go_wp2_with fail
          go_roundw
          case rel =>
            refine ⟨k + 1, by omega, by omega, by go_num, bgo HB.out HE.out.below, fun j hj => ?_⟩
            by_cases e : j = k
            · subst e; rw [HG.out.1, HG.out.2]; exact hxy
            · exact HN.out j (by omega)
          case measure => simp [intOf]; omega
        · have hxyb : (x != y) = true := by simpa using hxy
          obtain rfl : q = decide (x < y) := by rw [← HQ.out]; exact HNE.out hxy
          clear hxy
          go_wp2_with fail
          refine wp_region_rg 9 [] none [] (by kernel_rfl) (by kernel_rfl) ?_
          simp only [List.take_succ_cons, List.take_zero, List.drop_succ_cons, List.drop_zero]
          repeat (refine tree_det (by rfl) _ (by rfl) (fun W hW => by go_simp; (try simp (disch := omega) only [IntWalk.i64_in]); try rfl) ?_; simp only [Act.put, List.setIfInBounds_toArray, List.set_cons_succ, List.set_cons_zero])
          intro W hE hF
          obtain ⟨hc, hf⟩ := bcell hE.below
          have hzE := hE.size
          (try simp only [World.size_alloc] at hzE)
          have HE := Lib.hid hE
          have d1' := (hc b1 (off + k) hb1).trans d1
          have d2' := (hc b2 (off' + k) hb2).trans d2
          have hb1' : b1 < W.heap.size := by omega
          have hb2' : b2 < W.heap.size := by omega
          clear hE hF hc hf
          go_wp2_with fail
          refine wp_region_rg 9 [] none [] (by kernel_rfl) (by kernel_rfl) ?_
          simp only [List.take_succ_cons, List.take_zero, List.drop_succ_cons, List.drop_zero]
          repeat (refine tree_det (by rfl) _ (by rfl) (fun W hW => by go_simp; (try simp (disch := omega) only [IntWalk.i64_in]); try rfl) ?_; simp only [Act.put, List.setIfInBounds_toArray, List.set_cons_succ, List.set_cons_zero])
          intro W2 hE2 hF2
          have HE2 := Lib.hid (show Ext [] W W2 from hE2)
          clear hE2 hF2
          go_wp2_with fail
          go_returns
          exact ⟨by simp, bgo HB.out (bgo HE.out.below HE2.out.below)⟩
      · have hlmI : ¬ (k : Int) < b.length := by omega
        obtain rfl : q = decide ((a.length : Int) < b.length) := by rw [← HQ.out, before_end hk hk2 HN.out (by omega)]; simp
        have HB := Lib.hid hB
        clear hB
        go_wp2_with fail
        go_returns
        exact ⟨by simp, HB.out⟩
    · have hltI : ¬ (k : Int) < a.length := by omega
      obtain rfl : q = decide ((a.length : Int) < b.length) := by rw [← HQ.out, before_end hk hk2 HN.out (by omega)]; simp
      have HB := Lib.hid hB
      clear hB
      go_wp2_with fail
      go_returns
      exact ⟨by simp, HB.out⟩

theorem Shorter_any (a b : List Int) (v u : Value) (w : World) (hv : IntsAt w v a) (hu : IntsAt w u b) : Calls Try.prog 48 #[v, u] w (PV (.bool (shorter a b)) w) := by
  obtain ⟨o, c, rfl⟩ := hv.open
  obtain ⟨o2, c2, rfl⟩ := hu.open
  have hl1 := hv.len
  have hl2 := hu.len
  have HC := Lib.hid (Before_any a b _ _ w hv hu)
  obtain ⟨q, hq⟩ : ∃ q, shorter a b = q := ⟨_, rfl⟩
  rw [hq]
  have HQ := Lib.hid hq
  clear hv hu hq
  by_cases h1 : (a.length : Int) < b.length
  · obtain rfl : q = true := by rw [← HQ.out]; simp [shorter]; omega
    go_enter Try.func48, Try.ntmps48
    go_wp2_with fail
    go_returns
    exact ⟨by simp, Below.refl _ _⟩
  · by_cases h2 : (a.length : Int) = b.length
    · obtain rfl : q = before a b := by
        rw [← HQ.out]
        have e : a.length = b.length := by omega
        simp [shorter, e]
      have h2b : ((a.length : Int) == b.length) = true := by simpa using h2
      clear h2
      go_enter Try.func48, Try.ntmps48
      go_wp2_with fail
      refine HC.out.mono ?_
      rintro e W1 ⟨rfl, hb⟩
      have HB := Lib.hid hb
      clear hb HC
      go_wp2_with fail
      go_returns
      exact ⟨by simp, HB.out⟩
    · obtain rfl : q = false := by rw [← HQ.out]; simp [shorter]; omega
      have h2b : ((a.length : Int) == b.length) = false := by simpa using h2
      clear h2
      go_enter Try.func48, Try.ntmps48
      go_wp2_with fail
      go_returns
      exact ⟨by simp, Below.refl _ _⟩

end Go.Proofs.Ytoibfafmnaooaaa

namespace Go.Proofs.Ytoibfafmnaooaaa
open Go.RowKit Go.RG Go.SL Go.Shelf Cou
set_option maxHeartbeats 400000
set_option maxRecDepth 10000


/-- It returns the heap with some of its readings; nothing that was there has turned. -/
def PSome (h : HeapD) (m : Nat) (a b : Value) (w : World) (e : Ending) (w' : World) : Prop := ∃ c, e = .returned (hv (someH h m) a b c) ∧ TriplesAt w' c (someL m h.readings) ∧ Below w.heap.size w w'

set_option maxHeartbeats 2000000 in
theorem lawSome_any (h : HeapD) (wv tv xv' : Value) (m : Nat) (w : World) (hw : PairsAt w wv h.wet) (ht : IntsAt w tv h.turns) (hx : TriplesAt w xv' h.readings) (hl : h.readings.length ≤ 7) (hm : (m : Int) ≤ 1000) :
    Calls Try.prog 46 #[hv h wv tv xv', iv m] w (PSome h m wv tv w) := by
  obtain ⟨ow, cw, rfl⟩ := hw.open
  obtain ⟨ot, ct, rfl⟩ := ht.open
  obtain ⟨ox, cx, rfl⟩ := hx.open
  have HX := Lib.hid hx
  clear hw ht hx
  go_enter Try.func46, Try.ntmps46
  go_wp2_with fail
  refine gworld fun W1 hW1 => ?_
  have HB1 := Lib.hid (show Below w.heap.size w W1 from by rw [hW1]; exact (by repeat (first | exact Below.refl _ _ | assumption | refine bgo ?_ (by assumption) | refine bgoAlloc ?_ _ | refine bgoDrew ?_ | refine bgoSet ?_ (by simp; omega) _)))
  have hA0 : W1.heap[w.heap.size]? = some (.cells #[iv h.last, iv h.size, iv h.cool, iv h.die, iv h.burn, iv h.start.1, iv h.start.2, .slice ow h.wet.length cw, .slice ot h.turns.length ct, .slice ox h.readings.length cx] 28 (0, 0)) := by
    rw [hW1]; exact (Below.heap_alloc _ _ _ (by first | omega | (simp; done) | (simp; omega))).trans ((Below.heap_alloc _ _ _ (by first | omega | (simp; done) | (simp; omega))).trans (heap_new0 _ _))
  have hA1 : W1.heap[w.heap.size + 1]? = some (.cells #[iv 0, iv 0, iv 0, iv 0, iv 0, iv 0, iv 0, .slice none 0 0, .slice none 0 0, .slice none 0 0] 28 (0, 0)) := by rw [hW1]; exact (Below.heap_alloc _ _ _ (by first | omega | (simp; done) | (simp; omega))).trans (heap_new1 _ _ _)
  have hA2 : W1.heap[w.heap.size + 2]? = some (.cells #[iv h.last, iv h.size, iv h.cool, iv h.die, iv h.burn, iv h.start.1, iv h.start.2, .slice ow h.wet.length cw, .slice ot h.turns.length ct, .slice none 0 0] 28 (0, 0)) := by rw [hW1]; exact heap_new2 _ _ _ _
  have hsz : W1.heap.size = w.heap.size + 3 := by rw [hW1]; simp
  have HSZ := Lib.hid hsz
  have HA := Lib.hid (And.intro hA0 (And.intro hA1 hA2))
  clear hA0 hA1 hA2 hW1 hsz
  go_loopw [6] (fun u wr => ∃ k : Nat, k ≤ h.readings.length ∧ u = .int .i64 k ∧ ∃ oo oc, wr.heap[w.heap.size + 2]? = some (.cells #[iv h.last, iv h.size, iv h.cool, iv h.die, iv h.burn, iv h.start.1, iv h.start.2, .slice ow h.wet.length cw, .slice ot h.turns.length ct, .slice oo (someTo m h.readings k).length oc] 28 (0, 0)) ∧
      wr.ownsRow W1.heap.size 79 3 (.slice oo (someTo m h.readings k).length oc) (someTo m h.readings k).length (tripleCells (someTo m h.readings k)) ∧ Below w.heap.size w wr ∧ W1.heap.size ≤ wr.heap.size ∧ ∀ c, c < W1.heap.size → c ≠ w.heap.size + 2 → wr.heap[c]? = W1.heap[c]?) (fun u _ => h.readings.length - (intOf u).toNat)
  case atStart => exact ⟨0, Nat.zero_le _, rfl, none, 0, HA.out.2.2, ⟨rfl, .inl ⟨rfl, rfl⟩⟩, HB1.out, Nat.le_refl _, fun _ _ _ => rfl⟩
  case round =>
    obtain ⟨k, hk, rfl, oo, oc, hblk, hown, hB, hsw, hkeep⟩ := hrel
    obtain ⟨hcr0, _, hsr0⟩ := cells_of_block ((hkeep w.heap.size (by have := HSZ.out; omega) (by omega)).trans HA.out.1)
    obtain ⟨hcr2, hfr2, hsr2⟩ := cells_of_block hblk
    have hlen := someTo_len m k h.readings
    have hHX := HX.out.below hB (Nat.le_refl _)
    have HK := Lib.hid (And.intro hblk (And.intro hown (And.intro hB (And.intro hsw hkeep))))
    clear hblk hown hB hsw hkeep
    by_cases hlt : k < h.readings.length
    · obtain ⟨b, off, rfl, hb1, d1, d2, d3⟩ := TriplesAt.cell hHX hlt
      have hltI : (k : Int) < h.readings.length := by omega
      have g1 : h.readings.getD k (0, 0, 0) = h.readings[k] := by simp [List.getD, hlt]
      clear hHX
      generalize h.readings[k] = x at *
      have HG := Lib.hid g1
      clear g1
      have hdI : (m : Int) / 2 ^ k = ((m / 2 ^ k : Nat) : Int) := by norm_cast
      have hbit := bit_at m k
      have hdle : m / 2 ^ k ≤ m := Nat.div_le_self _ _
      generalize m / 2 ^ k = d at *
      have hd1 : (d : Int) ≤ 1000 := by omega
      cases hb : m.testBit k
      · rw [hb] at hbit
        have HNO := Lib.hid (someTo_no h.readings hb)
        clear hb
        go_wp2_with fail
        go_roundw
        case rel =>
          refine ⟨k + 1, by omega, by go_num, oo, oc, ?_⟩
          rw [HNO.out]
          exact HK.out
        case measure => simp [intOf]; omega
      · rw [hb] at hbit
        have hyes := someTo_yes h.readings hb
        rw [HG.out] at hyes
        have HYES := Lib.hid hyes
        clear hyes hb
        go_wp2_with fail
        refine wp_region_rg 8 [] none [(7, Spec.slice wr.heap.size #[iv x.1, iv x.2.1, iv x.2.2] 79 1)] (by kernel_rfl) (by kernel_rfl) ?_
        simp only [List.take_succ_cons, List.take_zero, List.drop_succ_cons, List.drop_zero]
        repeat (first | (refine tree_det (by rfl) _ (by rfl) (fun W hW => by go_simp; (try simp (disch := omega) only [IntWalk.i64_in]); try rfl) ?_; simp only [Act.put, List.setIfInBounds_toArray, List.set_cons_succ, List.set_cons_zero]) | (refine tree_skip (by rfl) (by rfl) ?_; simp only [Act.put, List.setIfInBounds_toArray, List.set_cons_succ, List.set_cons_zero]))
        refine tree_slice wr.heap.size _ _ _ (by rfl) (Nat.le_refl _) (by rfl) (by simp) (by simp) (fun W hW => by go_simp; try rfl) (fun b8 => ?_)
        simp only [Act.put, List.setIfInBounds_toArray, List.set_cons_succ, List.set_cons_zero]
        repeat (first | (refine tree_det (by rfl) _ (by rfl) (fun W hW => by go_simp; (try simp (disch := omega) only [IntWalk.i64_in]); try rfl) ?_; simp only [Act.put, List.setIfInBounds_toArray, List.set_cons_succ, List.set_cons_zero]) | (refine tree_skip (by rfl) (by rfl) ?_; simp only [Act.put, List.setIfInBounds_toArray, List.set_cons_succ, List.set_cons_zero]))
        intro W5 hE5 hF5
        have hE5' : Ext [] wr W5 := hE5
        obtain ⟨b8', hb8, hbB8, hblk8⟩ := hF5 _ (List.Mem.head _)
        cases hb8
        have HE5 := Lib.hid hE5'
        have HBK := Lib.hid hblk8
        have HOW5 := Lib.hid (owns_ext (Ms := []) HK.out.2.1 hE5' (by simp))
        have hz5 := hE5'.size
        have hsw := HK.out.2.2.2.1
        clear hE5 hF5 hE5' hblk8
        go_wp2_with (at_builtin; go_loud (refine wpList_append_at rfl _ _ tReadings4 rfl W1.heap.size (.slice oo (someTo m h.readings k).length oc) (someTo m h.readings k).length (tripleCells (someTo m h.readings k)) rfl HOW5.out (.slice (some ⟨b8, 0, none⟩) 1 1) 1 (tripleCells [x]) rfl (SlAt.of_block 3 1 HBK.out rfl (by decide)) (one_triples _) (by omega) (by omega) (by omega) ?_))
        intro v' W6 hown6 hgr6 _
        obtain ⟨o6, c6, rfl⟩ := owns_slice hown6
        have hs3 := HSZ.out
        have HP := Lib.hid (ap_push (i := 9) (u := .slice o6 ((someTo m h.readings k).length + 1) c6) HK.out.2.2.1 HK.out.2.1 HE5.out hown6 hgr6 hsw (by omega) (by omega) HK.out.1)
        obtain ⟨hcr6, hfr6, hsr6⟩ := cells_of_block (((ap_push0 HK.out.2.2.1 HK.out.2.1 HE5.out hown6 hgr6 (by omega) hsw).2.2 (w.heap.size + 2) (by omega)).trans HK.out.1)
        clear hown6 hgr6 hs3
        go_wp2_with fail
        go_roundw
        case rel =>
          have e : (someTo m h.readings (k + 1)).length = (someTo m h.readings k).length + 1 := by rw [HYES.out]; simp
          refine ⟨k + 1, by omega, by go_num, o6, c6, ?_⟩
          rw [e, HYES.out, tripleCells_snoc]
          exact ⟨HP.out.2.2.2.1, HP.out.2.2.1, HP.out.1, HP.out.2.1, fun c hc hne => (HP.out.2.2.2.2 c hc hne).trans (HK.out.2.2.2.2 c hc hne)⟩
        case measure => simp [intOf]; omega
    · obtain rfl : k = h.readings.length := by omega
      clear hHX
      have hres := (HK.out.2.2.2.2 (w.heap.size + 1) (by have := HSZ.out; omega) (by omega)).trans HA.out.2.1
      obtain ⟨hcr1, hfr1, hsr1⟩ := cells_of_block hres
      have HRES := Lib.hid hres
      clear hres
      go_wp2_with fail
      refine bodyPost_ret (v := hv (someH h m) (.slice ow h.wet.length cw) (.slice ot h.turns.length ct) (.slice oo (someTo m h.readings h.readings.length).length oc)) (results_cell_row Try.results46 _ _ (w.heap.size + 1) _ _ (0, 0) _ rfl (set_ten HRES.out _ _ _ _ _ _ _ _ _ _) Try.underlying28 rfl (by kernel_rfl)) rfl ?_
      have e : someL m h.readings = someTo m h.readings h.readings.length := rfl
      refine ⟨_, rfl, ?_, ten_below (by omega) HK.out.2.2.1 _ _ _ _ _ _ _ _ _ _⟩
      rw [e]
      refine SlAt.of_owns (owns_keep HK.out.2.1 fun g hg => ten_other ?_ _ _ _ _ _ _ _ _ _ _)
      have := (owns_ge HK.out.2.1 g hg).1
      have := HSZ.out
      omega

/-! ### inside, narrower -/
def insideB (a b : Rng) : Bool := decide (b.1 ≤ a.1) && decide (a.2 ≤ b.2)
theorem inside_any (a b : Rng) (w : World) : Calls Try.prog 87 #[rv a, rv b] w (PV (.bool (insideB a b)) w) := by
  by_cases h1 : b.1 ≤ a.1
  all_goals
    go_enter Try.func87, Try.ntmps87
    go_wp2
    go_returns
    exact ⟨by simp [insideB]; try omega, (by repeat (first | exact Below.refl _ _ | assumption | refine bgo ?_ (by assumption) | refine bgoAlloc ?_ _ | refine bgoDrew ?_ | refine bgoSet ?_ (by simp; omega) _))⟩

end Go.Proofs.Ytoibfafmnaooaaa

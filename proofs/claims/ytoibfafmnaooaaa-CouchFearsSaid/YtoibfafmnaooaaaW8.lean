/-
  Contracts of package couch, seventh part: Play and ProveTruth.
-/
import Derived.WalkKit
import Derived.WalkLawsBesides
import Derived.WalkSpells
import Derived.Outline
import Derived.Handy
import Derived.KernelRfl
import Derived.Lib.Hide
import Derived.Test.YtoibfafmnaooaaaW7
namespace Go.Proofs.Ytoibfafmnaooaaa
open Go.RowKit Go.RG Go.SL Go.Shelf Cou
set_option maxHeartbeats 400000
set_option maxRecDepth 10000

/-- It returns a slice of its own; nothing that was there has turned. -/
def POwn (t : TypeId) (size n : Nat) (xs : List Value) (w : World) (e : Ending) (w' : World) : Prop := ∃ v, e = .returned v ∧ w'.ownsRow w.heap.size t size v n xs ∧ Below w.heap.size w w'

theorem clone_any (l : List Int) (v : Value) (w : World) (hv : IntsAt w v l) (hlen : l.length ≤ 1000) :
    Calls Try.prog 81 #[v] w (POwn 3 1 l.length (intCells l) w) := by
  obtain ⟨o, c, rfl⟩ := hv.open
  have HV := Lib.hid hv
  have hnil := fun (w : World) a n c => Lib.run_eql_slice_nil (P := Try.prog) w 25 3 a n c 0 0 Try.underlying25
  cases o with
  | none =>
    have hl0 : l.length = 0 := by
      obtain ⟨_, o, c', h0, h1, h2, h3, h4⟩ := hv
      cases h0
      have := h3 rfl
      omega
    have hc0 : c = 0 := by
      obtain ⟨_, o, c', h0, h1, h2, h3, h4⟩ := hv
      cases h0
      exact h3 rfl
    have hl : l = [] := List.eq_nil_of_length_eq_zero hl0
    subst hl
    clear hv
    subst hc0
    go_enter Try.func81, Try.ntmps81
    go_wp2
    go_returns
    exact ⟨.slice none 0 0, by simp, ⟨by simp [intCells], .inl ⟨rfl, rfl⟩⟩, Below.refl _ _⟩
  | some a =>
    obtain ⟨b, off, sp⟩ := a
    obtain rfl : sp = none := by
      obtain ⟨_, o, c', h0, h1, h2, h3, h4⟩ := hv
      cases h0
      exact (h4 _ rfl).1
    clear hv
    go_enter Try.func81, Try.ntmps81
    go_wp2_with (at_builtin; refine wpList_append rfl _ _ tInts rfl w.heap.size (.slice (some ⟨w.heap.size, 0, none⟩) 0 0) 0 [] rfl ?_ (.slice (some ⟨b, off, none⟩) l.length c) l.length (intCells l) rfl ?_ (one_ints _) (by omega) (by omega) (by simp) ?_)
    · exact owns_block (cs := #[]) (n := 0) (heap_new0 _ _) rfl (Nat.le_refl _) (by decide)
    · exact HV.out.alloc _
    · intro v' w1 hown hgrow
      have HO := Lib.hid hown
      have HG := Lib.hid hgrow
      clear hown hgrow
      go_wp2
      go_returns
      refine ⟨v', by simp, ?_, ?_⟩
      · exact HO.out
      · exact Below.grown (bgoAlloc (Below.refl _ _) _) HG.out (by simp) (fun k e => by cases e; exact Nat.le_refl _)

theorem listed_any (h : HeapD) (b c : Value) (wv ws : Value) (start : Int) (wet : List Int) (w : World) (hw : PairsAt w wv h.wet) (hws : IntsAt w ws wet) (h0 : 0 ≤ h.last) (h9 : h.last ≤ 9) (hwl : (h.wet.length : Int) = h.last + 1) :
    Calls Try.prog 78 #[hv h wv b c, .agg #[iv start, ws]] w (PV (.bool (listedT h (start, wet))) w) := by
  obtain ⟨ow, cw, rfl⟩ := hw.open
  obtain ⟨os, cs, rfl⟩ := hws.open
  have hnl := hw.len
  have hsl := hws.len
  have HW := Lib.hid hw
  have HS := Lib.hid hws
  clear hw hws
  by_cases hl : (wet.length : Int) = h.last + 1
  case neg =>
    have hln : ((wet.length : Int) != h.last + 1) = true := by simpa using hl
    have hres : listedT h (start, wet) = false := by simp [listedT, hln]
    rw [hres]
    clear hl hres
    go_enter Try.func78, Try.ntmps78
    go_wp2_with fail
    refine wp_region_rg 14 [] none [(4, Spec.val (iv (h.last + 1)))] (by kernel_rfl) (by kernel_rfl) ?_
    simp only [List.take_succ_cons, List.take_zero, List.drop_succ_cons, List.drop_zero]
    repeat (first | (refine tree_det (by rfl) _ (by rfl) (fun W hW => by go_simp; (try simp (disch := omega) only [IntWalk.i64_in, Int.tdiv_eq_ediv_of_nonneg]); try rfl) ?_; simp only [Act.put, List.setIfInBounds_toArray, List.set_cons_succ, List.set_cons_zero]) | (refine tree_skip (by rfl) (by rfl) ?_; simp only [Act.put, List.setIfInBounds_toArray, List.set_cons_succ, List.set_cons_zero]))
    refine tree_val _ (by rfl) (by rfl) 82 _ (fun W hW => by go_simp; try rfl) (fun W hE hF => by exact hours_any h _ _ _ W h0 h9) ?_
    simp only [Act.put, List.setIfInBounds_toArray, List.set_cons_succ, List.set_cons_zero]
    repeat (first | (refine tree_det (by rfl) _ (by rfl) (fun W hW => by go_simp; (try simp (disch := omega) only [IntWalk.i64_in, Int.tdiv_eq_ediv_of_nonneg]); try rfl) ?_; simp only [Act.put, List.setIfInBounds_toArray, List.set_cons_succ, List.set_cons_zero]) | (refine tree_skip (by rfl) (by rfl) ?_; simp only [Act.put, List.setIfInBounds_toArray, List.set_cons_succ, List.set_cons_zero]))
    intro W hE hF
    obtain ⟨hc, hf⟩ := bcell hE.below
    have hzE := hE.size
    (try simp only [World.size_alloc] at hzE)
    go_wp2
    go_returns
    exact ⟨by simp, (by repeat (first | exact Below.refl _ _ | assumption | refine bgo ?_ hE.below | refine bgo ?_ (by assumption) | refine bgoAlloc ?_ _ | refine bgoDrew ?_ | refine bgoSet ?_ (by simp; try omega) _))⟩
  have hln : ((wet.length : Int) != h.last + 1) = false := by simpa using hl
  cases hst : inB start h.start.1 h.start.2
  · have hres : listedT h (start, wet) = false := by simp [listedT, hst]
    rw [hres]
    have HH := Lib.hid hst
    clear hres hst
    go_enter Try.func78, Try.ntmps78
    go_wp2_with fail
    refine wp_region_rg 14 [] none [(4, Spec.val (iv (h.last + 1))), (11, Spec.val (.bool false))] (by kernel_rfl) (by kernel_rfl) ?_
    simp only [List.take_succ_cons, List.take_zero, List.drop_succ_cons, List.drop_zero]
    repeat (first | (refine tree_det (by rfl) _ (by rfl) (fun W hW => by go_simp; (try simp (disch := omega) only [IntWalk.i64_in, Int.tdiv_eq_ediv_of_nonneg]); try rfl) ?_; simp only [Act.put, List.setIfInBounds_toArray, List.set_cons_succ, List.set_cons_zero]) | (refine tree_skip (by rfl) (by rfl) ?_; simp only [Act.put, List.setIfInBounds_toArray, List.set_cons_succ, List.set_cons_zero]))
    refine tree_val _ (by rfl) (by rfl) 82 _ (fun W hW => by go_simp; try rfl) (fun W hE hF => by exact hours_any h _ _ _ W h0 h9) ?_
    simp only [Act.put, List.setIfInBounds_toArray, List.set_cons_succ, List.set_cons_zero]
    repeat (first | (refine tree_det (by rfl) _ (by rfl) (fun W hW => by go_simp; (try simp (disch := omega) only [IntWalk.i64_in, Int.tdiv_eq_ediv_of_nonneg]); try rfl) ?_; simp only [Act.put, List.setIfInBounds_toArray, List.set_cons_succ, List.set_cons_zero]) | (refine tree_skip (by rfl) (by rfl) ?_; simp only [Act.put, List.setIfInBounds_toArray, List.set_cons_succ, List.set_cons_zero]))
    refine tree_val _ (by rfl) (by rfl) 107 _ (fun W hW => by go_simp; try rfl) (fun W hE hF => by have := has_any h.start start W; rw [HH.out] at this; exact this) ?_
    simp only [Act.put, List.setIfInBounds_toArray, List.set_cons_succ, List.set_cons_zero]
    repeat (first | (refine tree_det (by rfl) _ (by rfl) (fun W hW => by go_simp; (try simp (disch := omega) only [IntWalk.i64_in, Int.tdiv_eq_ediv_of_nonneg]); try rfl) ?_; simp only [Act.put, List.setIfInBounds_toArray, List.set_cons_succ, List.set_cons_zero]) | (refine tree_skip (by rfl) (by rfl) ?_; simp only [Act.put, List.setIfInBounds_toArray, List.set_cons_succ, List.set_cons_zero]))
    intro W hE hF
    obtain ⟨hc, hf⟩ := bcell hE.below
    have hzE := hE.size
    (try simp only [World.size_alloc] at hzE)
    go_wp2
    go_returns
    exact ⟨by simp, (by repeat (first | exact Below.refl _ _ | assumption | refine bgo ?_ hE.below | refine bgo ?_ (by assumption) | refine bgoAlloc ?_ _ | refine bgoDrew ?_ | refine bgoSet ?_ (by simp; try omega) _))⟩
  · have hres : listedT h (start, wet) = (List.range h.wet.length).all (listedAt h (start, wet)) := by simp only [listedT, hst, hln]; simp
    have HR := Lib.hid hres
    have HH := Lib.hid hst
    have HLW : Hid (wet.length = h.wet.length) := Lib.hid (by omega)
    clear hres hst
    go_enter Try.func78, Try.ntmps78
    go_wp2_with fail
    refine wp_region_rg 14 [] none [(4, Spec.val (iv (h.last + 1))), (11, Spec.val (.bool true))] (by kernel_rfl) (by kernel_rfl) ?_
    simp only [List.take_succ_cons, List.take_zero, List.drop_succ_cons, List.drop_zero]
    repeat (first | (refine tree_det (by rfl) _ (by rfl) (fun W hW => by go_simp; (try simp (disch := omega) only [IntWalk.i64_in, Int.tdiv_eq_ediv_of_nonneg]); try rfl) ?_; simp only [Act.put, List.setIfInBounds_toArray, List.set_cons_succ, List.set_cons_zero]) | (refine tree_skip (by rfl) (by rfl) ?_; simp only [Act.put, List.setIfInBounds_toArray, List.set_cons_succ, List.set_cons_zero]))
    refine tree_val _ (by rfl) (by rfl) 82 _ (fun W hW => by go_simp; try rfl) (fun W hE hF => by exact hours_any h _ _ _ W h0 h9) ?_
    simp only [Act.put, List.setIfInBounds_toArray, List.set_cons_succ, List.set_cons_zero]
    repeat (first | (refine tree_det (by rfl) _ (by rfl) (fun W hW => by go_simp; (try simp (disch := omega) only [IntWalk.i64_in, Int.tdiv_eq_ediv_of_nonneg]); try rfl) ?_; simp only [Act.put, List.setIfInBounds_toArray, List.set_cons_succ, List.set_cons_zero]) | (refine tree_skip (by rfl) (by rfl) ?_; simp only [Act.put, List.setIfInBounds_toArray, List.set_cons_succ, List.set_cons_zero]))
    refine tree_val _ (by rfl) (by rfl) 107 _ (fun W hW => by go_simp; try rfl) (fun W hE hF => by have := has_any h.start start W; rw [HH.out] at this; exact this) ?_
    simp only [Act.put, List.setIfInBounds_toArray, List.set_cons_succ, List.set_cons_zero]
    repeat (first | (refine tree_det (by rfl) _ (by rfl) (fun W hW => by go_simp; (try simp (disch := omega) only [IntWalk.i64_in, Int.tdiv_eq_ediv_of_nonneg]); try rfl) ?_; simp only [Act.put, List.setIfInBounds_toArray, List.set_cons_succ, List.set_cons_zero]) | (refine tree_skip (by rfl) (by rfl) ?_; simp only [Act.put, List.setIfInBounds_toArray, List.set_cons_succ, List.set_cons_zero]))
    intro W hE hF
    obtain ⟨hc, hf⟩ := bcell hE.below
    have hzE := hE.size
    (try simp only [World.size_alloc] at hzE)
    have hB : Below w.heap.size w W := (by repeat (first | exact Below.refl _ _ | assumption | refine bgo ?_ hE.below | refine bgo ?_ (by assumption) | refine bgoAlloc ?_ _ | refine bgoDrew ?_ | refine bgoSet ?_ (by simp; try omega) _))
    have hblk : W.heap[w.heap.size + 1]? = some (.cells #[iv start, .slice os wet.length cs] 71 (0, 0)) := (hE.block _ (by simp) (by simp)).trans (heap_new1 _ _ _)
    have HBK := Lib.hid hblk
    have HB := Lib.hid hB
    go_wp2_with fail
    go_loopw [24] (fun i wr => ∃ k : Nat, k ≤ h.wet.length ∧ i = .int .i64 k ∧ (∀ j, j < k → listedAt h (start, wet) j = true) ∧ wr.heap[w.heap.size + 1]? = some (.cells #[iv start, .slice os wet.length cs] 71 (0, 0)) ∧ Below w.heap.size w wr)
      (fun i _ => h.wet.length - (intOf i).toNat)
    case atStart => exact ⟨0, Nat.zero_le _, rfl, fun j hj => by omega, HBK.out, HB.out⟩
    case round =>
      obtain ⟨k, hk, rfl, hno, hblk, hB⟩ := hrel
      have HN := Lib.hid hno
      clear hno hc hf hzE hE hF HBK HB
      by_cases hlt : k < h.wet.length
      · obtain ⟨b1, off1, rfl, hb1, hc0, hc1⟩ := PairsAt.cell (HW.out.below hB (Nat.le_refl _)) hlt
        obtain ⟨b2, off2, rfl, hb2, hc2⟩ := IntsAt.cell (HS.out.below hB (Nat.le_refl _)) (show k < wet.length by have := HLW.out; omega)
        have hlt2 : k < wet.length := by have := HLW.out; omega
        have hq : listedAt h (start, wet) k = inB wet[k] h.wet[k].1 h.wet[k].2 := by
          unfold listedAt
          rw [show h.wet.getD k (0, 0) = h.wet[k] from by simp [hlt], show wet.getD k 0 = wet[k] from by simp [hlt2]]
        generalize h.wet[k] = r at hc0 hc1 hq
        generalize wet[k] = x at hc2 hq
        have HB := Lib.hid hB
        have HK := Lib.hid hblk
        have hb6 : w.heap.size + 1 < wr.heap.size := (Array.getElem?_eq_some_iff.1 hblk).1
        have hb7 : w.heap.size + 1 < wr.heap.size + 1 := by omega
        have hb8 : b2 < wr.heap.size + 1 := by omega
        have hcx : wr.cell? ⟨w.heap.size + 1, 1, none⟩ = some (.slice (some ⟨b2, off2, none⟩) wet.length cs) := by simp [World.cell?, hblk]
        clear hB hblk
        cases hp : inB x r.1 r.2
        all_goals
          have HQ := Lib.hid (hq.trans hp)
          have HP := Lib.hid hp
          clear hq hp
          go_wp2_with fail
        · skip
          refine wp_region_rg 8 [] none [(6, Spec.val (.bool false))] (by kernel_rfl) (by kernel_rfl) ?_
          simp only [List.take_succ_cons, List.take_zero, List.drop_succ_cons, List.drop_zero]
          repeat (first | (refine tree_det (by rfl) _ (by rfl) (fun W hW => by go_simp; (try simp (disch := omega) only [IntWalk.i64_in, Int.tdiv_eq_ediv_of_nonneg]); try rfl) ?_; simp only [Act.put, List.setIfInBounds_toArray, List.set_cons_succ, List.set_cons_zero]) | (refine tree_skip (by rfl) (by rfl) ?_; simp only [Act.put, List.setIfInBounds_toArray, List.set_cons_succ, List.set_cons_zero]))
          refine tree_val _ (by rfl) (by rfl) 107 _ (fun W hW => by go_simp; try rfl) (fun W hE hF => by have := has_any r x W; rw [HP.out] at this; exact this) ?_
          simp only [Act.put, List.setIfInBounds_toArray, List.set_cons_succ, List.set_cons_zero]
          repeat (first | (refine tree_det (by rfl) _ (by rfl) (fun W hW => by go_simp; (try simp (disch := omega) only [IntWalk.i64_in, Int.tdiv_eq_ediv_of_nonneg]); try rfl) ?_; simp only [Act.put, List.setIfInBounds_toArray, List.set_cons_succ, List.set_cons_zero]) | (refine tree_skip (by rfl) (by rfl) ?_; simp only [Act.put, List.setIfInBounds_toArray, List.set_cons_succ, List.set_cons_zero]))
          intro W hE hF
          obtain ⟨hc, hf⟩ := bcell hE.below
          have hzE := hE.size
          (try simp only [World.size_alloc] at hzE)
          go_wp2_with fail
          go_returns
          refine ⟨?_, bgo (bgoAlloc HB.out _) hE.below⟩
          rw [HR.out]
          have : (List.range h.wet.length).all (listedAt h (start, wet)) = false := by
            rw [List.all_eq_false]
            exact ⟨k, by simpa using hlt, by rw [HQ.out]; simp⟩
          rw [this]; simp
        · skip
          refine wp_region_rg 8 [] none [(6, Spec.val (.bool true))] (by kernel_rfl) (by kernel_rfl) ?_
          simp only [List.take_succ_cons, List.take_zero, List.drop_succ_cons, List.drop_zero]
          repeat (first | (refine tree_det (by rfl) _ (by rfl) (fun W hW => by go_simp; (try simp (disch := omega) only [IntWalk.i64_in, Int.tdiv_eq_ediv_of_nonneg]); try rfl) ?_; simp only [Act.put, List.setIfInBounds_toArray, List.set_cons_succ, List.set_cons_zero]) | (refine tree_skip (by rfl) (by rfl) ?_; simp only [Act.put, List.setIfInBounds_toArray, List.set_cons_succ, List.set_cons_zero]))
          refine tree_val _ (by rfl) (by rfl) 107 _ (fun W hW => by go_simp; try rfl) (fun W hE hF => by have := has_any r x W; rw [HP.out] at this; exact this) ?_
          simp only [Act.put, List.setIfInBounds_toArray, List.set_cons_succ, List.set_cons_zero]
          repeat (first | (refine tree_det (by rfl) _ (by rfl) (fun W hW => by go_simp; (try simp (disch := omega) only [IntWalk.i64_in, Int.tdiv_eq_ediv_of_nonneg]); try rfl) ?_; simp only [Act.put, List.setIfInBounds_toArray, List.set_cons_succ, List.set_cons_zero]) | (refine tree_skip (by rfl) (by rfl) ?_; simp only [Act.put, List.setIfInBounds_toArray, List.set_cons_succ, List.set_cons_zero]))
          intro W hE hF
          obtain ⟨hc, hf⟩ := bcell hE.below
          have hzE := hE.size
          (try simp only [World.size_alloc] at hzE)
          go_wp2_with fail
          go_roundw
          case rel =>
            refine ⟨k + 1, by omega, by go_num, fun j hj => (by by_cases e : j = k; (subst e; exact HQ.out); exact HN.out j (by omega)), ?_, bgo (bgoAlloc HB.out _) hE.below⟩
            exact (hE.block _ (by simp; omega) (by simp)).trans ((Below.heap_alloc _ _ _ hb6).trans HK.out)
          case measure => simp [intOf]; omega
      · have hkl : k = h.wet.length := by omega
        go_wp2_with fail
        go_returns
        refine ⟨?_, hB⟩
        rw [HR.out]
        have : (List.range h.wet.length).all (listedAt h (start, wet)) = true := by
          rw [List.all_eq_true]
          intro j hj
          exact HN.out j (by have : j < h.wet.length := by simpa using hj
                             omega)
        rw [this]; simp

end Go.Proofs.Ytoibfafmnaooaaa

/-
  Contracts of package couch, second part: readings, minima, ranges, turnings.
-/
import Derived.WalkKit
import Derived.WalkLawsBesides
import Derived.WalkSpells
import Derived.Outline
import Derived.Handy
import Derived.KernelRfl
import Derived.Lib.Hide
import Derived.Test.YtoibfafmnaooaaaW2
namespace Go.Proofs.Ytoibfafmnaooaaa
open Go.RowKit Go.RG Go.SL Go.Shelf Cou
set_option maxHeartbeats 400000
set_option maxRecDepth 10000

theorem reading_any (h : HeapD) (a b c : Value) (x : Rdg) (w : World) : Calls Try.prog 96 #[hv h a b c, xv x] w (PV (.bool (okRdg h.last x)) w) := by
  go_enter Try.func96, Try.ntmps96
  go_wp2_with (first | (go_at_call 122; refine (hour_any h _ _ _ _ _).mono ?_; rintro e w' ⟨rfl, hb⟩; obtain ⟨hc, hf⟩ := bcell hb; have hz0 : w.heap.size < w'.heap.size := (by have := hb.size; (try simp only [World.size_alloc] at this); omega); have hz1 : w.heap.size + 1 < w'.heap.size := (by have := hb.size; (try simp only [World.size_alloc] at this); omega)) | (go_at_call 110; refine (within_any _ _ _ _).mono ?_; rintro e w' ⟨rfl, hb⟩; obtain ⟨hc, hf⟩ := bcell hb; have hz0 : w.heap.size < w'.heap.size := (by have := hb.size; (try simp only [World.size_alloc] at this); omega); have hz1 : w.heap.size + 1 < w'.heap.size := (by have := hb.size; (try simp only [World.size_alloc] at this); omega)))
  all_goals
    go_returns
    exact ⟨by simp [okRdg, *], (by repeat (first | exact Below.refl _ _ | assumption | refine bgo ?_ (by assumption) | refine bgoAlloc ?_ _ | refine bgoDrew ?_ | refine bgoSet ?_ (by simp; omega) _))⟩

theorem right_any (x : Rdg) (l0 l1 l2 l3 l4 l5 l6 l7 l8 l9 : Int) (w : World) (h0 : 0 ≤ x.1) (h9 : x.1 ≤ 9) (hs0 : 0 ≤ x.2.1) (hs1 : x.2.1 ≤ 1000) (he0 : 0 ≤ x.2.2) (he1 : x.2.2 ≤ 50)
    (hl : ∀ n ∈ [l0, l1, l2, l3, l4, l5, l6, l7, l8, l9], 0 ≤ n ∧ n ≤ 100000) :
    Calls Try.prog 95 #[xv x, .agg #[iv l0, iv l1, iv l2, iv l3, iv l4, iv l5, iv l6, iv l7, iv l8, iv l9]] w (PV (.bool (rightR x [l0, l1, l2, l3, l4, l5, l6, l7, l8, l9])) w) := by
  obtain ⟨hh, xs, xe⟩ := x
  simp only at h0 h9 hs0 hs1 he0 he1
  obtain ⟨k, rfl⟩ := Int.eq_ofNat_of_zero_le h0
  have hk : k < 10 := by omega
  have hlk := hl ([l0, l1, l2, l3, l4, l5, l6, l7, l8, l9][k]'(by simpa using hk)) (List.getElem_mem _)
  generalize hm : [l0, l1, l2, l3, l4, l5, l6, l7, l8, l9][k]'(by simpa using hk) = m at hlk
  have hcell : (w.alloc (.cells #[iv k, iv xs, iv xe] 104) |>.alloc (.cells #[iv l0, iv l1, iv l2, iv l3, iv l4, iv l5, iv l6, iv l7, iv l8, iv l9] 127)).cell? ⟨w.heap.size + 1, k, none⟩ = some (iv m) := by
    have : ([iv l0, iv l1, iv l2, iv l3, iv l4, iv l5, iv l6, iv l7, iv l8, iv l9] : List Value)[k]? = some (iv m) := by
      have : ([l0, l1, l2, l3, l4, l5, l6, l7, l8, l9].map iv)[k]? = some (iv m) := by
        rw [List.getElem?_map, List.getElem?_eq_getElem (by simpa using hk), hm]; rfl
      exact this
    simp only [World.cell?]
    rw [show (w.alloc (.cells #[iv k, iv xs, iv xe] 104) |>.alloc (.cells #[iv l0, iv l1, iv l2, iv l3, iv l4, iv l5, iv l6, iv l7, iv l8, iv l9] 127)).heap[w.heap.size + 1]? = some (.cells #[iv l0, iv l1, iv l2, iv l3, iv l4, iv l5, iv l6, iv l7, iv l8, iv l9] 127) from by
      have := heap_alloc_new (w.alloc (.cells #[iv k, iv xs, iv xe] 104)) (.cells #[iv l0, iv l1, iv l2, iv l3, iv l4, iv l5, iv l6, iv l7, iv l8, iv l9] 127)
      rwa [World.size_alloc] at this]
    simpa using this
  have hr : rightR ((k : Int), xs, xe) [l0, l1, l2, l3, l4, l5, l6, l7, l8, l9] = inB (m - xs) (-xe) xe := by
    simp only [rightR, Int.toNat_natCast, List.getD_eq_getElem?_getD]
    rw [List.getElem?_eq_getElem (by simpa using hk), hm]; rfl
  have HR := Lib.hid hr
  clear hr hm hl
  have hk' : (k : Int) < 10 := by omega
  go_enter Try.func95, Try.ntmps95
  go_wp2_with fail
  refine wp_region_rg 13 [] none [(12, Spec.val (.bool (inB (m - xs) (-xe) xe)))] (by kernel_rfl) (by kernel_rfl) ?_
  simp only [List.take_succ_cons, List.take_zero, List.drop_succ_cons, List.drop_zero]
  repeat (refine tree_det (by rfl) _ (by rfl) (fun W hW => by go_simp; (try simp (disch := omega) only [IntWalk.i64_in]); try rfl) ?_; simp only [Act.put, List.setIfInBounds_toArray, List.set_cons_succ, List.set_cons_zero])
  refine tree_val _ (by rfl) (by rfl) 110 _ (fun W hW => by go_simp; (try simp (disch := omega) only [IntWalk.i64_in, Int.tdiv_eq_ediv_of_nonneg]); try rfl) (fun W hE hF => by exact within_any _ _ _ _) ?_
  simp only [Act.put, List.setIfInBounds_toArray, List.set_cons_succ, List.set_cons_zero]
  repeat (refine tree_det (by rfl) _ (by rfl) (fun W hW => by go_simp; (try simp (disch := omega) only [IntWalk.i64_in, Int.tdiv_eq_ediv_of_nonneg]); try rfl) ?_; simp only [Act.put, List.setIfInBounds_toArray, List.set_cons_succ, List.set_cons_zero])
  intro W hE hF
  obtain ⟨hc, hf⟩ := bcell hE.below
  have hzE := hE.size
  (try simp only [World.size_alloc] at hzE)
  go_wp2
  go_returns
  rw [HR.out]
  exact ⟨by simp, (by repeat (first | exact Below.refl _ _ | assumption | refine bgo ?_ hE.below | refine bgoAlloc ?_ _ | refine bgoDrew ?_))⟩

theorem min_two (a b : Int) (g c : Nat) (w : World) (h0 : w.cell? ⟨g, 0, none⟩ = some (iv a)) (h1 : w.cell? ⟨g, 1, none⟩ = some (iv b)) :
    Calls Try.prog 126 #[.slice (some ⟨g, 0, none⟩) 2 c] w (PV (iv (min a b)) w) := by
  go_enter Try.func126, Try.ntmps126
  go_wp2
  go_rounds 2
  all_goals
    go_returns
    exact ⟨by simp; omega, Below.refl _ _⟩

theorem minimum_two (a b : Int) (g c : Nat) (w : World) (h0 : w.cell? ⟨g, 0, none⟩ = some (iv a)) (h1 : w.cell? ⟨g, 1, none⟩ = some (iv b)) :
    Calls Try.prog 101 #[.slice (some ⟨g, 0, none⟩) 2 c] w (PV (iv (min a b)) w) := by
  have H := Lib.hid (min_two a b g c w h0 h1)
  go_enter Try.func101, Try.ntmps101
  go_wp2_with fail
  refine H.out.mono ?_
  rintro e w' ⟨rfl, hb⟩
  go_wp2_with fail
  go_returns
  exact ⟨by simp, hb⟩

theorem wider_any (r : Rng) (n : Int) (w : World) : Calls Try.prog 105 #[rv r, iv n] w (PV (rv (min r.1 n, max r.2 n)) w) := by
  go_enter Try.func105, Try.ntmps105
  go_wp2_with fail
  refine wp_region_rg 10 [] none [(3, Spec.slice (w.heap.size + 2) #[iv r.1, iv n] 3 2), (4, Spec.val (iv (min r.1 n)))] (by kernel_rfl) (by kernel_rfl) ?_
  simp only [List.take_succ_cons, List.take_zero, List.drop_succ_cons, List.drop_zero]
  repeat (refine tree_det (by rfl) _ (by rfl) (fun W hW => by go_simp; (try simp (disch := omega) only [IntWalk.i64_in, Int.tdiv_eq_ediv_of_nonneg]); try rfl) ?_; simp only [Act.put, List.setIfInBounds_toArray, List.set_cons_succ, List.set_cons_zero])
  refine tree_slice (w.heap.size + 2) _ _ _ (by rfl) (by simp) (by rfl) (by simp) (by simp) (fun W hW => by go_simp; try rfl) (fun b => ?_)
  simp only [Act.put, List.setIfInBounds_toArray, List.set_cons_succ, List.set_cons_zero]
  refine tree_val _ (by rfl) (by rfl) 101 _ (fun W hW => by go_simp; try rfl) (fun W hE hF => ?_) ?_
  · obtain ⟨c, hcb, hB, hc⟩ := hF _ (List.Mem.head _) (by kernel_rfl)
    cases hcb
    exact minimum_two r.1 n b 2 W (by simp [World.cell?, hc]) (by simp [World.cell?, hc])
  simp only [Act.put, List.setIfInBounds_toArray, List.set_cons_succ, List.set_cons_zero]
  repeat (refine tree_det (by rfl) _ (by rfl) (fun W hW => by go_simp; (try simp (disch := omega) only [IntWalk.i64_in, Int.tdiv_eq_ediv_of_nonneg]); try rfl) ?_; simp only [Act.put, List.setIfInBounds_toArray, List.set_cons_succ, List.set_cons_zero])
  intro W hE hF
  obtain ⟨hc, hf⟩ := bcell hE.below
  have hzE := hE.size
  (try simp only [World.size_alloc] at hzE)
  go_wp2
  all_goals
    (try simp only [Exit.inBlock, Exit.then])
    refine bodyPost_ret (v := rv (min r.1 n, max r.2 n)) (by simp [results, Try.results105, go_sem, hc]; try omega) rfl ?_
    exact ⟨rfl, (by repeat (first | exact Below.refl _ _ | assumption | refine bgo ?_ hE.below | refine bgo ?_ (by assumption) | refine bgoAlloc ?_ _ | refine bgoDrew ?_ | refine bgoSet ?_ (by simp; try omega) _))⟩

theorem contains_any (l : List Int) (v : Value) (n : Int) (w : World) (hv : IntsAt w v l) : Calls Try.prog 112 #[v, iv n] w (PV (.bool (l.contains n)) w) := by
  have hidx : Calls Try.prog 129 #[v, iv n] w (fun e w' => w = w' ∧ ((l.contains n = true ∧ ∃ k : Nat, k < l.length ∧ e = .returned (iv k)) ∨ (l.contains n = false ∧ e = .returned (iv (-1))))) := by
    have hlen := hv.len
    obtain ⟨o, c, rfl⟩ := hv.open
    have HV := Lib.hid hv
    clear hv
    go_enter Try.func129, Try.ntmps129
    go_wp2
    go_loop [4, 5, 8] (fun _ _ i => ∃ k : Nat, k ≤ l.length ∧ i = .int .i64 k ∧ (∀ j (hj : j < l.length), j < k → l[j] ≠ n)) (fun _ _ i => l.length - (intOf i).toNat)
    case atStart => exact ⟨0, Nat.zero_le _, rfl, fun j _ hj => by omega⟩
    case round =>
      obtain ⟨k, hk, rfl, hno⟩ := hrel
      have HN := Lib.hid hno
      clear hno
      by_cases hlt : k < l.length
      · obtain ⟨b, off, rfl, hb, hc0⟩ := IntsAt.cell HV.out hlt
        by_cases he : l[k] = n
        · have he' : (n == l[k]) = true := by simp [he]
          have HE := Lib.hid he
          clear he
          go_wp2
          go_returns
          exact ⟨rfl, .inl ⟨by rw [← HE.out]; exact List.getElem_mem _, k, hlt, by simp⟩⟩
        · have he' : (n == l[k]) = false := by simp; omega
          have HE := Lib.hid he
          clear he
          go_wp2
          go_round
          case rel => exact ⟨k + 1, by omega, by go_num, fun j hj hjk => (by by_cases e : j = k; (subst e; exact HE.out); exact HN.out j hj (by omega))⟩
          case measure => simp [intOf]; omega
      · have hkl : k = l.length := by omega
        go_wp2
        go_returns
        refine ⟨rfl, .inr ⟨?_, by simp⟩⟩
        intro hm
        obtain ⟨j, hj, e⟩ := List.getElem_of_mem hm
        exact HN.out j hj (by omega) e
  have HI := Lib.hid hidx
  clear hidx
  go_enter Try.func112, Try.ntmps112
  go_wp2_with fail
  refine HI.out.mono ?_
  rintro e w' ⟨rfl, ⟨hc, k, hk, rfl⟩ | ⟨hc, rfl⟩⟩
  · have HC := Lib.hid hc
    clear hc
    go_wp2_with fail
    go_returns
    exact ⟨by rw [HC.out]; simp, Below.refl _ _⟩
  · have HC := Lib.hid hc
    clear hc
    go_wp2_with fail
    go_returns
    exact ⟨by rw [HC.out]; simp, Below.refl _ _⟩

theorem tPairs : SliceT Try.prog 37 36 (rv (0, 0)) 2 16 := ⟨Try.underlying37, by kernel_rfl, rfl, by omega⟩
theorem tInts : SliceT Try.prog 25 3 (iv 0) 1 8 := ⟨Try.underlying25, by kernel_rfl, rfl, by omega⟩
theorem tTriples : SliceT Try.prog 38 104 (xv (0, 0, 0)) 3 24 := ⟨Try.underlying38, by kernel_rfl, rfl, by omega⟩

theorem ranges_any (h : HeapD) (wv b c : Value) (w : World) (hw : PairsAt w wv h.wet) (hlen : h.wet.length ≤ 1000) :
    Calls Try.prog 100 #[hv h wv b c] w (PSl 2 (h.wet.length + 1) (pairCells (h.start :: h.wet)) w) := by
  obtain ⟨o, cc, rfl⟩ := hw.open
  have HW := Lib.hid hw
  clear hw
  go_enter Try.func100, Try.ntmps100
  go_wp2_with (at_builtin; refine wpList_append rfl _ _ tPairs rfl (w.heap.size + 1) (.slice (some ⟨w.heap.size + 1, 0, none⟩) 1 1) 1 [iv h.start.1, iv h.start.2] rfl ?_ (.slice o h.wet.length cc) h.wet.length (pairCells h.wet) rfl ?_ (one_pairs _) (by omega) (by omega) (by simp) ?_)
  · exact owns_block (heap_new1 _ _ _) rfl (Nat.le_refl _) (by decide)
  · exact (HW.out.alloc _).alloc _
  · intro v' w1 hown hgrow
    have HO := Lib.hid hown
    have HG := Lib.hid hgrow
    clear hown hgrow
    go_wp2
    go_returns
    refine ⟨v', by simp, ?_, ?_⟩
    · have := SlAt.of_owns HO.out
      rw [Nat.add_comm] at this
      exact this
    · exact Below.grown (bgoAlloc (bgoAlloc (Below.refl _ _) _) _) HG.out (by simp; omega) (fun k e => by cases e; show _ ≤ w.heap.size + 1; omega)

/-- 'turnings', one number: it is asked against the one before it, which it replaces. -/
theorem turn1_any (h : HeapD) (n p : Int) (lb hb : Nat) (w : World) (hl : w.heap[lb]? = some (.cells #[iv p] 3 (0, 0))) (hh : w.cell? ⟨hb, 0, none⟩ = some (iv h.last))
    (hp0 : -1 ≤ p) (hp1 : p ≤ 1000) :
    Calls Try.prog 109 #[iv n, .pointer (some ⟨lb, 0, none⟩), .pointer (some ⟨hb, 0, none⟩)] w
      (fun e w' => e = .returned (.bool (inB n (p + 1) h.last)) ∧ w'.heap[lb]? = some (.cells #[iv n] 3 (0, 0)) ∧ Ext [lb] w w') := by
  have hc := cell_of_block0 hl
  have hf : w.frozen? ⟨lb, 0, none⟩ = false := by simp [World.frozen?, hl]
  have hlt := World.block_lt_of_cell? w _ hc
  have hlt2 := World.block_lt_of_cell? w _ hh
  have HL := Lib.hid hl
  clear hl
  go_enter Try.func109, Try.ntmps109
  go_wp2_with (go_at_call 110; refine (within_any _ _ _ _).mono ?_; rintro e w' ⟨rfl, hb⟩; obtain ⟨hc, hf⟩ := bcell hb)
  go_returns
  refine ⟨by simp, ?_, ?_⟩
  · exact set_block ((hb.block lb hlt).trans HL.out) _
  · exact (Ext.of_below hb).trans (ext_set w' ⟨lb, 0, none⟩ _)

end Go.Proofs.Ytoibfafmnaooaaa

/-
  The law's IsRows, of any list.
-/
import Derived.WalkKit
import Derived.WalkLawsBesides
import Derived.WalkSpells
import Derived.Outline
import Derived.Handy
import Derived.KernelRfl
import Derived.Lib.Hide
import Derived.BigRegion
import Derived.Deep.Cut
import Derived.Test.YtdjgikcnmokjkaaGreatKE
namespace Go.Proofs.YtdjgikcnmokjkaaGreat
open Go.RowKit Go.RG Go.SL Go.Shelf Cou Go.TB
set_option maxHeartbeats 400000
set_option maxRecDepth 10000

theorem inc_first_bad {R : Nat} : ∀ (c : List Int), ¬ Inc R 0 c → ∃ K, ∃ hK : K < c.length, Inc R 0 (c.take K) ∧ (inB c[K] 0 ((R : Int) - 1) = false ∨ (inB c[K] 0 ((R : Int) - 1) = true ∧ ∃ J, ∃ hJ : J < c.length, K = J + 1 ∧ c[K] ≤ c[J])) := by
  intro c hc
  have key : ∀ k, k ≤ c.length → Inc R 0 (c.take k) ∨ ∃ K, ∃ hK : K < c.length, Inc R 0 (c.take K) ∧ (inB c[K] 0 ((R : Int) - 1) = false ∨ (inB c[K] 0 ((R : Int) - 1) = true ∧ ∃ J, ∃ hJ : J < c.length, K = J + 1 ∧ c[K] ≤ c[J])) := by
    intro k
    induction k with
    | zero => intro _; left; simp [Inc]
    | succ k ih =>
      intro hk
      rcases ih (by omega) with h | h
      · have hkl : k < c.length := by omega
        by_cases hin : inB c[k] 0 ((R : Int) - 1) = true
        · cases k with
          | zero =>
            left
            rw [inc_pairwise, List.take_succ_eq_append_getElem hkl]
            simp only [List.take_zero, List.nil_append, List.pairwise_singleton, true_and]
            intro x hx
            rw [List.mem_singleton.1 hx]
            unfold inB at hin
            simp at hin
            omega
          | succ j =>
            by_cases hle : c[j + 1] ≤ c[j]
            · exact .inr ⟨j + 1, hkl, h, .inr ⟨hin, j, by omega, rfl, hle⟩⟩
            · left
              rw [inc_pairwise] at h ⊢
              rw [List.take_succ_eq_append_getElem hkl]
              have hall : ∀ x ∈ c.take (j + 1), x ≤ c[j] := by
                intro x hx
                rw [List.take_succ_eq_append_getElem (by omega)] at hx h
                rcases List.mem_append.1 hx with hx | hx
                · exact Int.le_of_lt ((List.pairwise_append.1 h.1).2.2 x hx c[j] (by simp))
                · rw [List.mem_singleton.1 hx]; exact Int.le_refl _
              refine ⟨List.pairwise_append.2 ⟨h.1, List.pairwise_singleton _ _, fun a ha b hb => ?_⟩, fun x hx => ?_⟩
              · rw [List.mem_singleton.1 hb]
                have := hall a ha
                omega
              · rcases List.mem_append.1 hx with hx | hx
                · exact h.2 x hx
                · rw [List.mem_singleton.1 hx]
                  unfold inB at hin
                  simp at hin
                  omega
        · exact .inr ⟨k, hkl, h, .inl (by simpa using hin)⟩
      · exact .inr h
  rcases key c.length (Nat.le_refl _) with h | h
  · rw [List.take_length] at h; exact absurd h hc
  · exact h

theorem rIsRows_bad (f : FieldD) (hr0 : 1 ≤ f.rows) (hr1 : f.rows ≤ 7) (tv lv : Value) (c : List Int) (hc : ¬ Inc f.rows.toNat 0 c) (hcl : c.length ≤ 1000) (w : World) (h : IntsAt w lv c) :
    Calls Tryz.prog 48 #[fv f tv, lv] w (PV (.tuple #[iv 0, .bool false]) w) := by
  obtain ⟨o, cap, rfl⟩ := h.open
  have HL := Lib.hid h
  obtain ⟨K, hK, hI, hbad⟩ := inc_first_bad c hc
  have hIl := hI.len
  obtain ⟨R, hR⟩ : ∃ R : Nat, f.rows = R := ⟨f.rows.toNat, by omega⟩
  have hRt : f.rows.toNat = R := by omega
  rw [hRt] at hI hbad hIl
  have hR7 : R ≤ 7 := by omega
  have HI := Lib.hid hI
  have HR := Lib.hid hR
  have HBAD := Lib.hid (show inB c[K] 0 (f.rows - 1) = false ∨ (inB c[K] 0 (f.rows - 1) = true ∧ ∃ J, ∃ hJ : J < c.length, K = J + 1 ∧ c[K] ≤ c[J]) from by rw [hR]; exact hbad)
  clear h hc hRt hR hI hbad
  go_enter Tryz.func48, Tryz.ntmps48
  go_wp2_with fail
  refine gworld fun W0 hW0 => ?_
  have hB0 : Below w.heap.size w W0 := by rw [hW0]; exact (by repeat (first | exact Below.refl _ _ | assumption | refine bgo ?_ (by assumption) | refine bgoAlloc ?_ _ | refine bgoDrew ?_ | refine bgoSet ?_ (by simp; omega) _))
  have hK0 : W0.heap[w.heap.size]? = some (.cells (rfcells f tv) 26 (0, 0)) := by rw [hW0]; exact heap_new0 _ _
  have H0 := Lib.hid (And.intro hB0 hK0)
  clear hW0 hB0 hK0
  go_loopw [6, 7] (fun u i wr => ∃ k : Nat, k ≤ K ∧ i = .int .i64 k ∧ u = .int .i64 ((ofBits (c.take k) : Nat) : Int) ∧ Below W0.heap.size W0 wr) (fun _ i _ => K - (intOf i).toNat)
  case atStart => exact ⟨0, Nat.zero_le _, rfl, rfl, Below.refl _ _⟩
  case round =>
    obtain ⟨k, hk, rfl, rfl, hB⟩ := hrel
    have hBB := bgo H0.out.1 hB
    obtain ⟨c1, f1, l1⟩ := cells_of_block ((hB.block _ (cells_of_block H0.out.2).2.2).trans H0.out.2)
    have HB := Lib.hid (And.intro hB hBB)
    have hkc : k < c.length := by omega
    have hltI : (k : Int) < c.length := by omega
    by_cases hlt : k < K
    · obtain ⟨g, off, rfl, hg, d1⟩ := IntsAt.cell (HL.out.below hBB (Nat.le_refl _)) hkc
      have hktl : k < (c.take K).length := by simp; omega
      obtain ⟨n, hn, hn5⟩ := inc_at HI.out hktl
      rw [List.getElem_take] at hn
      have htt : (c.take K).take k = c.take k := by rw [List.take_take, Nat.min_eq_left (by omega)]
      have hob := ofBits_lt (inc_take HI.out k)
      rw [htt] at hob
      have hpo : 2 ^ R ≤ 2 ^ 7 := Nat.pow_le_pow_right (by omega) hR7
      have hta := ofBits_take hkc hn
      have hb128 : ofBits (c.take k) ≤ 127 := by omega
      generalize hbk : ofBits (c.take k) = b at *
      obtain ⟨hp1, hp2⟩ := pow_bd (show n ≤ 6 by omega)
      have hp1N : 1 ≤ 2 ^ n := Nat.one_le_two_pow
      have hp2N : 2 ^ n ≤ 2 ^ 6 := Nat.pow_le_pow_right (by omega) (by omega)
      have hor : bits .or .i64 (b : Int) (2 ^ n) = ((b ||| 2 ^ n : Nat) : Int) := by
        have := or_nat b (2 ^ n) (by omega) (by omega)
        simpa using this
      have hn7 : (n : Int) ≤ 6 := by omega
      have HTA := Lib.hid (And.intro hta hbk)
      have hnR : (n : Int) < f.rows := by have := HR.out; omega
      have hb127I : (b : Int) ≤ 127 := by omega
      have HC := Lib.hid (fun W => rIn_any (n : Int) 0 (f.rows - 1) W)
      rw [show inB (n : Int) 0 (f.rows - 1) = true from by simp [inB]; omega] at HC
      clear hB hBB hob hpo hta hbk htt
      cases k with
      | zero =>
        rw [hn] at d1
        simp only [Nat.add_zero] at d1
        have HN := Lib.hid hn
        clear hn
        go_upto_region 5 with (fail)
        refine wp_region_rg 25 [] none [(7, Spec.val (.bool true))] (by as_aux_lemma => kernel_rfl) (by as_aux_lemma => kernel_rfl) ?_
        simp only [List.take_succ_cons, List.take_zero, List.drop_succ_cons, List.drop_zero]
        repeat (first | (refine tree_det (by rfl) _ (by rfl) (fun W hW => by go_simp; (try simp (disch := omega) only [IntWalk.i64_in]); try rfl) ?_; simp only [Act.put, List.setIfInBounds_toArray, List.set_cons_succ, List.set_cons_zero]) | (refine tree_skip (by rfl) (by rfl) ?_; simp only [Act.put, List.setIfInBounds_toArray, List.set_cons_succ, List.set_cons_zero]))
        refine tree_val _ (by rfl) (by rfl) 25 _ (fun W hW => by go_simp; try rfl) (fun W hE hF => by exact HC.out W) ?_
        simp only [Act.put, List.setIfInBounds_toArray, List.set_cons_succ, List.set_cons_zero]
        repeat (first | (refine tree_det (by rfl) _ (by rfl) (fun W hW => by go_simp; (try simp (disch := omega) only [IntWalk.i64_in]); try rfl) ?_; simp only [Act.put, List.setIfInBounds_toArray, List.set_cons_succ, List.set_cons_zero]) | (refine tree_skip (by rfl) (by rfl) ?_; simp only [Act.put, List.setIfInBounds_toArray, List.set_cons_succ, List.set_cons_zero]))
        intro W hE hF
        obtain ⟨hc, hf⟩ := bcell hE.below
        have hzE := hE.size
        (try simp only [World.size_alloc] at hzE)
        have HE := Lib.hid hE
        clear hE hF
        go_wp2_with fail
        go_roundw
        case rel => exact ⟨1, by omega, by go_num, by rw [HTA.out.1], bgo HB.out.1 HE.out.below⟩
        case measure => simp [intOf]; omega
      | succ m =>
        have hm : m < c.length := by omega
        obtain ⟨bb', off', he, _, d2⟩ := IntsAt.cell (HL.out.below HB.out.2 (Nat.le_refl _)) hm
        cases he
        have hst := inc_step HI.out hktl
        rw [List.getElem_take, List.getElem_take] at hst
        rw [hn] at hst d1
        generalize c[m] = y at *
        have hd3 : decide ((n : Int) ≤ y) = false := by simp; omega
        clear hst
        have HN := Lib.hid hn
        have hmI : (m : Int) < c.length := by omega
        have hsub : ((m + 1 : Nat) : Int) - 1 = (m : Int) := by omega
        clear hn
        go_upto_region 5 with (fail)
        refine wp_region_rg 25 [] none [(7, Spec.val (.bool true))] (by as_aux_lemma => kernel_rfl) (by as_aux_lemma => kernel_rfl) ?_
        simp only [List.take_succ_cons, List.take_zero, List.drop_succ_cons, List.drop_zero]
        repeat (first | (refine tree_det (by rfl) _ (by rfl) (fun W hW => by go_simp; (try simp (disch := omega) only [IntWalk.i64_in]); try rfl) ?_; simp only [Act.put, List.setIfInBounds_toArray, List.set_cons_succ, List.set_cons_zero]) | (refine tree_skip (by rfl) (by rfl) ?_; simp only [Act.put, List.setIfInBounds_toArray, List.set_cons_succ, List.set_cons_zero]))
        refine tree_val _ (by rfl) (by rfl) 25 _ (fun W hW => by go_simp; try rfl) (fun W hE hF => by exact HC.out W) ?_
        simp only [Act.put, List.setIfInBounds_toArray, List.set_cons_succ, List.set_cons_zero]
        repeat (first | (refine tree_det (by rfl) _ (by rfl) (fun W hW => by go_simp; (try simp (disch := omega) only [IntWalk.i64_in]); try rfl) ?_; simp only [Act.put, List.setIfInBounds_toArray, List.set_cons_succ, List.set_cons_zero]) | (refine tree_skip (by rfl) (by rfl) ?_; simp only [Act.put, List.setIfInBounds_toArray, List.set_cons_succ, List.set_cons_zero]))
        intro W hE hF
        obtain ⟨hc, hf⟩ := bcell hE.below
        have hzE := hE.size
        (try simp only [World.size_alloc] at hzE)
        have HE := Lib.hid hE
        clear hE hF
        go_wp2_with fail
        go_roundw
        case rel => exact ⟨m + 2, by omega, by go_num, by rw [HTA.out.1], bgo HB.out.1 HE.out.below⟩
        case measure => simp [intOf]; omega
    · have hkK : k = K := by omega
      obtain ⟨g, off, rfl, hg, d1⟩ := IntsAt.cell (HL.out.below hBB (Nat.le_refl _)) hkc
      have hb1 := HBAD.out
      subst hkK
      rcases hb1 with hb1 | ⟨hb1, J, hJ, hJK, hle⟩
      · generalize c[k] = x at *
        have HC := Lib.hid (fun W => rIn_any x 0 (f.rows - 1) W)
        rw [hb1] at HC
        have hr1' := hr1
        clear hB hBB hb1
        go_upto_region 5 with (fail)
        refine wp_region_rg 25 [] none [(7, Spec.val (.bool false))] (by as_aux_lemma => kernel_rfl) (by as_aux_lemma => kernel_rfl) ?_
        simp only [List.take_succ_cons, List.take_zero, List.drop_succ_cons, List.drop_zero]
        repeat (first | (refine tree_det (by rfl) _ (by rfl) (fun W hW => by go_simp; (try simp (disch := omega) only [IntWalk.i64_in]); try rfl) ?_; simp only [Act.put, List.setIfInBounds_toArray, List.set_cons_succ, List.set_cons_zero]) | (refine tree_skip (by rfl) (by rfl) ?_; simp only [Act.put, List.setIfInBounds_toArray, List.set_cons_succ, List.set_cons_zero]))
        refine tree_val _ (by rfl) (by rfl) 25 _ (fun W hW => by go_simp; try rfl) (fun W hE hF => by exact HC.out W) ?_
        simp only [Act.put, List.setIfInBounds_toArray, List.set_cons_succ, List.set_cons_zero]
        repeat (first | (refine tree_det (by rfl) _ (by rfl) (fun W hW => by go_simp; (try simp (disch := omega) only [IntWalk.i64_in]); try rfl) ?_; simp only [Act.put, List.setIfInBounds_toArray, List.set_cons_succ, List.set_cons_zero]) | (refine tree_skip (by rfl) (by rfl) ?_; simp only [Act.put, List.setIfInBounds_toArray, List.set_cons_succ, List.set_cons_zero]))
        intro W hE hF
        obtain ⟨hc, hf⟩ := bcell hE.below
        have hzE := hE.size
        (try simp only [World.size_alloc] at hzE)
        have HE := Lib.hid hE
        clear hE hF
        go_wp2_with fail
        go_returns
        exact ⟨by simp, bgo HB.out.2 HE.out.below⟩
      · subst hJK
        obtain ⟨bb', off', he, _, d2⟩ := IntsAt.cell (HL.out.below HB.out.2 (Nat.le_refl _)) hJ
        cases he
        generalize c[J + 1] = x at *
        generalize c[J] = y at *
        have HC := Lib.hid (fun W => rIn_any x 0 (f.rows - 1) W)
        rw [hb1] at HC
        have hd3 : decide (x ≤ y) = true := by simpa using hle
        have hJI : (J : Int) < c.length := by omega
        have hsub : ((J + 1 : Nat) : Int) - 1 = (J : Int) := by omega
        clear hB hBB hb1
        go_upto_region 5 with (fail)
        refine wp_region_rg 25 [] none [(7, Spec.val (.bool true))] (by as_aux_lemma => kernel_rfl) (by as_aux_lemma => kernel_rfl) ?_
        simp only [List.take_succ_cons, List.take_zero, List.drop_succ_cons, List.drop_zero]
        repeat (first | (refine tree_det (by rfl) _ (by rfl) (fun W hW => by go_simp; (try simp (disch := omega) only [IntWalk.i64_in]); try rfl) ?_; simp only [Act.put, List.setIfInBounds_toArray, List.set_cons_succ, List.set_cons_zero]) | (refine tree_skip (by rfl) (by rfl) ?_; simp only [Act.put, List.setIfInBounds_toArray, List.set_cons_succ, List.set_cons_zero]))
        refine tree_val _ (by rfl) (by rfl) 25 _ (fun W hW => by go_simp; try rfl) (fun W hE hF => by exact HC.out W) ?_
        simp only [Act.put, List.setIfInBounds_toArray, List.set_cons_succ, List.set_cons_zero]
        repeat (first | (refine tree_det (by rfl) _ (by rfl) (fun W hW => by go_simp; (try simp (disch := omega) only [IntWalk.i64_in]); try rfl) ?_; simp only [Act.put, List.setIfInBounds_toArray, List.set_cons_succ, List.set_cons_zero]) | (refine tree_skip (by rfl) (by rfl) ?_; simp only [Act.put, List.setIfInBounds_toArray, List.set_cons_succ, List.set_cons_zero]))
        intro W hE hF
        obtain ⟨hc, hf⟩ := bcell hE.below
        have hzE := hE.size
        (try simp only [World.size_alloc] at hzE)
        have HE := Lib.hid hE
        clear hE hF
        go_wp2_with fail
        go_returns
        exact ⟨by simp, bgo HB.out.2 HE.out.below⟩

/-- Any list: whether it rises within the rows, and its bits. -/
theorem rIsRows_gen (f : FieldD) (hr0 : 1 ≤ f.rows) (hr1 : f.rows ≤ 7) (tv lv : Value) (c : List Int) (hcl : c.length ≤ 1000) (w : World) (h : IntsAt w lv c) :
    Calls Tryz.prog 48 #[fv f tv, lv] w (PV (.tuple #[iv (if isTurns (f.rows - 1) c = true then ((ofBits c : Nat) : Int) else 0), .bool (isTurns (f.rows - 1) c)]) w) := by
  have e := turns_inc (last := f.rows - 1) (by omega) c
  rw [show (f.rows - 1 + 1).toNat = f.rows.toNat from by congr 1; omega] at e
  by_cases hc : Inc f.rows.toNat 0 c
  · rw [e.2 hc, if_pos rfl]
    exact rIsRows_any f hr0 hr1 tv lv c hc w h
  · have : isTurns (f.rows - 1) c = false := by
      cases ht : isTurns (f.rows - 1) c
      · rfl
      · exact absurd (e.1 ht) hc
    rw [this, if_neg (by simp)]
    exact rIsRows_bad f hr0 hr1 tv lv c hc hcl w h
end Go.Proofs.YtdjgikcnmokjkaaGreat

/-
  Contracts of the law of package weed: IsRows, of an increasing list.
-/
import Derived.WalkKit
import Derived.WalkLawsBesides
import Derived.WalkSpells
import Derived.Outline
import Derived.Handy
import Derived.KernelRfl
import Derived.Lib.Hide
import Derived.Deep.Cut
import Derived.Laws.BitsLemmas
import Derived.Test.YtdjgikcnmokjkaaRF
namespace Go.Proofs.Ytdjgikcnmokjkaa
open Go.RowKit Go.RG Go.SL Go.Shelf Cou Go.TB
set_option maxHeartbeats 400000
set_option maxRecDepth 10000

theorem wraps63 (n : Int) (h₀ : 0 ≤ n) (h₁ : n < 2 ^ 63) : IntKind.i64.wrap n = n := by
  exact IntWalk.i64_in _ (by omega)
theorem or_nat (a b : Nat) (ha : a < 2 ^ 63) (hb : b < 2 ^ 63) : bits .or .i64 (a : Int) (b : Int) = ((a ||| b : Nat) : Int) := (bits_nat .i64 63 (by decide) wraps63 a b ha hb).2

theorem inc_at {p : Nat} {c : List Int} (h : Inc p 0 c) {k : Nat} (hk : k < c.length) : ∃ n : Nat, c[k] = (n : Int) ∧ n < p := by
  have := ((inc_pairwise _ _).1 h).2 c[k] (List.getElem_mem hk)
  exact ⟨c[k].toNat, by omega, by omega⟩
theorem inc_step {p : Nat} {c : List Int} (h : Inc p 0 c) {k : Nat} (hk : k + 1 < c.length) : c[k] < c[k + 1] :=
  List.pairwise_iff_getElem.1 ((inc_pairwise _ _).1 h).1 k (k + 1) (by omega) hk (by omega)
theorem ofBits_app (x : Int) : ∀ l : List Int, ofBits (l ++ [x]) = ofBits l ||| 2 ^ x.toNat := by
  intro l
  induction l with
  | nil => simp [ofBits]
  | cons y l ih =>
    show 2 ^ y.toNat ||| ofBits (l ++ [x]) = (2 ^ y.toNat ||| ofBits l) ||| 2 ^ x.toNat
    rw [ih, Nat.or_assoc]
theorem ofBits_take {c : List Int} {k n : Nat} (hk : k < c.length) (hn : c[k] = (n : Int)) : ofBits (c.take (k + 1)) = ofBits (c.take k) ||| 2 ^ n := by
  rw [List.take_succ_eq_append_getElem hk, ofBits_app, hn, Int.toNat_natCast]
theorem inc_take {p : Nat} {c : List Int} (h : Inc p 0 c) (k : Nat) : Inc p 0 (c.take k) := by
  obtain ⟨h1, h2⟩ := (inc_pairwise _ _).1 h
  exact (inc_pairwise _ _).2 ⟨h1.sublist (List.take_sublist k c), fun x hx => h2 x (List.mem_of_mem_take hx)⟩

theorem rIsRows_any (f : FieldD) (hr0 : 1 ≤ f.rows) (hr1 : f.rows ≤ 7) (tv lv : Value) (c : List Int) (hc : Inc f.rows.toNat 0 c) (w : World) (h : IntsAt w lv c) :
    Calls Try.prog 12 #[fv f tv, lv] w (PV (.tuple #[iv (ofBits c : Nat), .bool true]) w) := by
  obtain ⟨o, cap, rfl⟩ := h.open
  have HL := Lib.hid h
  have HI := Lib.hid hc
  have hcl := hc.len
  have hcl7 : c.length ≤ 7 := by omega
  obtain ⟨R, hR⟩ : ∃ R : Nat, f.rows = R := ⟨f.rows.toNat, by omega⟩
  have hRt : f.rows.toNat = R := by omega
  rw [hRt] at HI
  have hR7 : R ≤ 7 := by omega
  have HR := Lib.hid hR
  clear h hc hcl hRt hR
  obtain ⟨q, hq⟩ : ∃ q, ofBits c = q := ⟨_, rfl⟩
  rw [hq]
  have HQ := Lib.hid hq
  clear hq
  go_enter Try.func12, Try.ntmps12
  go_wp2_with fail
  refine gworld fun W0 hW0 => ?_
  have hB0 : Below w.heap.size w W0 := by rw [hW0]; exact (by repeat (first | exact Below.refl _ _ | assumption | refine bgo ?_ (by assumption) | refine bgoAlloc ?_ _ | refine bgoDrew ?_ | refine bgoSet ?_ (by simp; omega) _))
  have hK0 : W0.heap[w.heap.size]? = some (.cells (rfcells f tv) 26 (0, 0)) := by rw [hW0]; exact heap_new0 _ _
  have H0 := Lib.hid (And.intro hB0 hK0)
  clear hW0 hB0 hK0
  go_loopw [6, 7] (fun u i wr => ∃ k : Nat, k ≤ c.length ∧ i = .int .i64 k ∧ u = .int .i64 ((ofBits (c.take k) : Nat) : Int) ∧ Below W0.heap.size W0 wr) (fun _ i _ => c.length - (intOf i).toNat)
  case atStart => exact ⟨0, Nat.zero_le _, rfl, rfl, Below.refl _ _⟩
  case round =>
    obtain ⟨k, hk, rfl, rfl, hB⟩ := hrel
    have hBB := bgo H0.out.1 hB
    obtain ⟨c1, f1, l1⟩ := cells_of_block ((hB.block _ (cells_of_block H0.out.2).2.2).trans H0.out.2)
    have HB := Lib.hid (And.intro hB hBB)
    by_cases hlt : k < c.length
    · obtain ⟨g, off, rfl, hg, d1⟩ := IntsAt.cell (HL.out.below hBB (Nat.le_refl _)) hlt
      obtain ⟨n, hn, hn5⟩ := inc_at HI.out hlt
      have hob := ofBits_lt (inc_take HI.out k)
      have hpo : 2 ^ R ≤ 2 ^ 7 := Nat.pow_le_pow_right (by omega) hR7
      have hta := ofBits_take hlt hn
      have hb128 : ofBits (c.take k) ≤ 127 := by omega
      generalize hbk : ofBits (c.take k) = b at *
      have hltI : (k : Int) < c.length := by omega
      obtain ⟨hp1, hp2⟩ := pow_bd (show n ≤ 6 by omega)
      have hp1N : 1 ≤ 2 ^ n := Nat.one_le_two_pow
      have hp2N : 2 ^ n ≤ 2 ^ 6 := Nat.pow_le_pow_right (by omega) (by omega)
      have hor : bits .or .i64 (b : Int) (2 ^ n) = ((b ||| 2 ^ n : Nat) : Int) := by
        have := or_nat b (2 ^ n) (by omega) (by omega)
        simpa using this
      have hn7 : (n : Int) ≤ 6 := by omega
      have HTA := Lib.hid (And.intro hta hbk)
      have hnR : (n : Int) < f.rows := by have := HR.out; omega
      have hb127I : (b : Int) ≤ 127 := by omega
      have HC := Lib.hid (fun W => rIn_any (n : Int) 0 (f.rows - 1) W)
      rw [show inB (n : Int) 0 (f.rows - 1) = true from by simp [inB]; omega] at HC
      clear hB hBB hob hpo hta hbk
      cases k with
      | zero =>
        rw [hn] at d1
        simp only [Nat.add_zero] at d1
        have HN := Lib.hid hn
        clear hn
        go_upto_region 5 with (fail)
        refine wp_region_rg 25 [] none [(7, Spec.val (.bool true))] (by kernel_rfl) (by kernel_rfl) ?_
        simp only [List.take_succ_cons, List.take_zero, List.drop_succ_cons, List.drop_zero]
        repeat (first | (refine tree_det (by rfl) _ (by rfl) (fun W hW => by go_simp; (try simp (disch := omega) only [IntWalk.i64_in]); try rfl) ?_; simp only [Act.put, List.setIfInBounds_toArray, List.set_cons_succ, List.set_cons_zero]) | (refine tree_skip (by rfl) (by rfl) ?_; simp only [Act.put, List.setIfInBounds_toArray, List.set_cons_succ, List.set_cons_zero]))
        refine tree_val _ (by rfl) (by rfl) 35 _ (fun W hW => by go_simp; try rfl) (fun W hE hF => by exact HC.out W) ?_
        simp only [Act.put, List.setIfInBounds_toArray, List.set_cons_succ, List.set_cons_zero]
        repeat (first | (refine tree_det (by rfl) _ (by rfl) (fun W hW => by go_simp; (try simp (disch := omega) only [IntWalk.i64_in]); try rfl) ?_; simp only [Act.put, List.setIfInBounds_toArray, List.set_cons_succ, List.set_cons_zero]) | (refine tree_skip (by rfl) (by rfl) ?_; simp only [Act.put, List.setIfInBounds_toArray, List.set_cons_succ, List.set_cons_zero]))
        intro W hE hF
        obtain ⟨hc, hf⟩ := bcell hE.below
        have hzE := hE.size
        (try simp only [World.size_alloc] at hzE)
        have HE := Lib.hid hE
        clear hE hF
        go_wp2_with fail
        go_roundw
        case rel => exact ⟨1, by omega, by go_num, by rw [HTA.out.1], bgo HB.out.1 HE.out.below⟩
        case measure => simp [intOf]; omega
      | succ m =>
        have hm : m < c.length := by omega
        obtain ⟨bb', off', he, _, d2⟩ := IntsAt.cell (HL.out.below HB.out.2 (Nat.le_refl _)) hm
        cases he
        have hst := inc_step HI.out hlt
        rw [hn] at hst d1
        generalize c[m] = y at *
        have hd3 : decide ((n : Int) ≤ y) = false := by simp; omega
        clear hst
        have HN := Lib.hid hn
        have hmI : (m : Int) < c.length := by omega
        have hsub : ((m + 1 : Nat) : Int) - 1 = (m : Int) := by omega
        clear hn
        go_upto_region 5 with (fail)
        refine wp_region_rg 25 [] none [(7, Spec.val (.bool true))] (by kernel_rfl) (by kernel_rfl) ?_
        simp only [List.take_succ_cons, List.take_zero, List.drop_succ_cons, List.drop_zero]
        repeat (first | (refine tree_det (by rfl) _ (by rfl) (fun W hW => by go_simp; (try simp (disch := omega) only [IntWalk.i64_in]); try rfl) ?_; simp only [Act.put, List.setIfInBounds_toArray, List.set_cons_succ, List.set_cons_zero]) | (refine tree_skip (by rfl) (by rfl) ?_; simp only [Act.put, List.setIfInBounds_toArray, List.set_cons_succ, List.set_cons_zero]))
        refine tree_val _ (by rfl) (by rfl) 35 _ (fun W hW => by go_simp; try rfl) (fun W hE hF => by exact HC.out W) ?_
        simp only [Act.put, List.setIfInBounds_toArray, List.set_cons_succ, List.set_cons_zero]
        repeat (first | (refine tree_det (by rfl) _ (by rfl) (fun W hW => by go_simp; (try simp (disch := omega) only [IntWalk.i64_in]); try rfl) ?_; simp only [Act.put, List.setIfInBounds_toArray, List.set_cons_succ, List.set_cons_zero]) | (refine tree_skip (by rfl) (by rfl) ?_; simp only [Act.put, List.setIfInBounds_toArray, List.set_cons_succ, List.set_cons_zero]))
        intro W hE hF
        obtain ⟨hc, hf⟩ := bcell hE.below
        have hzE := hE.size
        (try simp only [World.size_alloc] at hzE)
        have HE := Lib.hid hE
        clear hE hF
        go_wp2_with fail
        go_roundw
        case rel => exact ⟨m + 2, by omega, by go_num, by rw [HTA.out.1], bgo HB.out.1 HE.out.below⟩
        case measure => simp [intOf]; omega
    · have hkl : k = c.length := by omega
      have hnl : ¬ (k : Int) < c.length := by omega
      have hall : ofBits (c.take k) = q := by rw [hkl, List.take_length]; exact HQ.out
      rw [hall]
      clear hB hBB
      go_wp2_with fail
      go_returns
      exact ⟨by simp, HB.out.2⟩

end Go.Proofs.Ytdjgikcnmokjkaa

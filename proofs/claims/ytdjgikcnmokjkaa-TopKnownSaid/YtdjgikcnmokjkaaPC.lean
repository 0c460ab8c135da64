/-
  Contracts of package weed, third part: how many rows somebody did.
-/
import Derived.WalkKit
import Derived.WalkLawsBesides
import Derived.WalkSpells
import Derived.Outline
import Derived.Handy
import Derived.KernelRfl
import Derived.Lib.Hide
import Derived.Test.YtdjgikcnmokjkaaPB
import Derived.Test.YtdjgikcnmokjkaaVC
namespace Go.Proofs.Ytdjgikcnmokjkaa
open Go.RowKit Go.RG Go.SL Go.Shelf Cou Go.TB
set_option maxHeartbeats 400000
set_option maxRecDepth 10000

theorem didL_succ (l : List Int) (who : Int) (a k : Nat) : didL l who a (k + 1) = didL l who a k + (if l.getD (a + k) 0 = who then 1 else 0) := by
  unfold didL
  rw [List.range'_concat, List.countP_append, List.countP_singleton]
  by_cases h : l.getD (a + k) 0 = who
  · simp only [Nat.one_mul, h, beq_self_eq_true, if_true]; omega
  · simp only [Nat.one_mul, if_neg h, show (l.getD (a + k) 0 == who) = false from by simpa using h, Bool.false_eq_true, if_false]; omega
theorem didL_bd (l : List Int) (who : Int) (a k : Nat) : 0 ≤ didL l who a k ∧ didL l who a k ≤ k := by
  unfold didL
  have := List.countP_le_length (l := List.range' a k) (p := fun i => l.getD i 0 == who)
  simp only [List.length_range'] at this
  omega

theorem slice_answers (g a n : Nat) (b : Int) (hb : b + 1 = (a : Int) + n) (hn : 1 ≤ n) (h7 : a + n ≤ 7) (W : World) :
    (Instr.sliceAt 96 (.pointer (some ⟨g, 0, none⟩)) (some (iv (a : Int))) (some (iv (b + 1))) none).run Try.prog W = .ok (.slice (some ⟨g, a, none⟩) n (7 - a)) W := by
  have hl : Try.prog.arrayLen 96 = 7 := by kernel_rfl
  have h := run_sliceAt_array_lh (P := Try.prog) W 96 ⟨g, 0, none⟩ (by kernel_rfl) .i64 .i64 (a : Int) (b + 1) (by omega) (by omega) (by rw [hl]; omega)
  have hs : (sizeOf (Try.prog.elem 96)).run Try.prog W = .ok 1 W := by kernel_rfl
  rw [h, hs, hl]
  have e1 : (b + 1).toNat = a + n := by omega
  have e2 : ¬ 7 = a := by omega
  simp [slicedAt, e1, e2, Addr.add]
  omega

theorem count_any (xs : List Int) (hx : xs.length = 7) (who : Int) (a n : Nat) (b : Int) (hb : b + 1 = (a : Int) + n) (hn : 1 ≤ n) (h7 : a + n ≤ 7) (w : World) :
    Calls Try.prog 80 #[aggI xs, iv who, iv a, iv b] w (PV (iv (didL xs who a n)) w) := by
  have hN := heap_new0 w (.cells (intCells xs).toArray 96)
  have HX := Lib.hid hx
  have hsl := slice_answers w.heap.size a n b hb hn h7
  rw [hb] at hsl
  have hb0 : -1 ≤ b := by omega
  have hb6 : b ≤ 6 := by omega
  clear hx
  go_enter Try.func80, Try.ntmps80
  go_wp2
  have HN := Lib.hid hN
  clear hN hsl
  go_loop [8, 16] (fun m i => ∃ k : Nat, k ≤ n ∧ i = .int .i64 k ∧ m = .int .i64 (didL xs who a k)) (fun _ i => n - (intOf i).toNat)
  case atStart => exact ⟨0, Nat.zero_le _, rfl, by simp [didL]⟩
  case round =>
    obtain ⟨k, hk, rfl, rfl⟩ := hrel
    have hbd := didL_bd xs who a k
    have hsu := didL_succ xs who a k
    by_cases hlt : k < n
    · have hcell := cell_of_ints HN.out (show a + k < xs.length by rw [HX.out]; omega)
      have hg : xs.getD (a + k) 0 = xs[a + k]'(by rw [HX.out]; omega) := by simp [List.getD, HX.out, show a + k < 7 by omega]
      rw [hg] at hsu
      have HSU := Lib.hid hsu
      clear hg hsu
      generalize xs[a + k]'(by rw [HX.out]; omega) = y at *
      generalize didL xs who a k = d at *
      by_cases hy : y = who
      · subst hy
        go_wp2
        go_round
        case rel => exact ⟨k + 1, by omega, by go_num, by rw [HSU.out, if_pos rfl]⟩
        case measure => simp [intOf]; omega
      · have hyb : (y == who) = false := by simpa using hy
        have HY := Lib.hid hy
        clear hy
        go_wp2
        go_round
        case rel => exact ⟨k + 1, by omega, by go_num, by rw [HSU.out, if_neg HY.out]; simp⟩
        case measure => simp [intOf]; omega
    · have hkn : k = n := by omega
      subst hkn
      clear hsu
      generalize didL xs who a k = d at *
      go_wp2
      go_returns
      exact ⟨by simp, (by repeat (first | exact Below.refl _ _ | assumption | refine bgo ?_ (by assumption) | refine bgoAlloc ?_ _ | refine bgoDrew ?_ | refine bgoSet ?_ (by simp; omega) _))⟩

theorem seven_of {l : List Int} (h : l.length = 7) : ∃ a b c d e f g, l = [a, b, c, d, e, f, g] := by
  match l, h with
  | [a, b, c, d, e, f, g], _ => exact ⟨a, b, c, d, e, f, g, rfl⟩

/-- done, of a list that says something of each row. -/
theorem done_any (f : FieldD) (tv : Value) (xs : List Int) (hx : xs.length = 7) (who : Int) (w : World) (h0 : 1 ≤ f.rows) (h7 : f.rows ≤ 7) :
    Calls Try.prog 43 #[fv f tv, aggI xs, iv who] w (PV (iv (doneF f xs who)) w) := by
  have hcount := count_any xs hx who 0 f.rows.toNat (f.rows - 1) (by omega) (by omega) (by omega)
  have hd : didL xs who 0 f.rows.toNat = doneF f xs who := by
    unfold doneF didT
    simp
  rw [hd] at hcount
  generalize doneF f xs who = d at *
  obtain ⟨a, b, c, d, e, g, k, rfl⟩ := seven_of hx
  have HC := Lib.hid hcount
  clear hcount hx hd
  show Calls _ _ #[fv f tv, .agg #[iv a, iv b, iv c, iv d, iv e, iv g, iv k], iv who] _ _
  go_enter Try.func43, Try.ntmps43
  go_wp2_with fail
  refine (HC.out _).mono ?_
  rintro e w' ⟨rfl, hb⟩
  go_wp2_with fail
  go_returns
  exact ⟨by simp, (by repeat (first | exact Below.refl _ _ | assumption | refine bgo ?_ (by assumption) | refine bgoAlloc ?_ _ | refine bgoDrew ?_ | refine bgoSet ?_ (by simp; omega) _))⟩

end Go.Proofs.Ytdjgikcnmokjkaa

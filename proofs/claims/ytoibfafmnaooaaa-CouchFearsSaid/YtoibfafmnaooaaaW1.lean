/-
  Contracts of the small functions of package couch: each returns what is said, and turns nothing that was there.
-/
import Derived.WalkKit
import Derived.WalkLawsBesides
import Derived.WalkSpells
import Derived.Outline
import Derived.Handy
import Derived.KernelRfl
import Derived.Test.YtoibfafmnaooaaaProg
import Derived.Test.YtoibfafmnaooaaaLib
import Derived.Test.YtoibfafmnaooaaaMath
namespace Go.Proofs.Ytoibfafmnaooaaa
open Go.RowKit Go.RG Go.SL Cou
set_option maxHeartbeats 400000

abbrev iv (n : Int) : Value := .int .i64 n
abbrev rv (r : Rng) : Value := .agg #[.int .i64 r.1, .int .i64 r.2]
abbrev xv (x : Rdg) : Value := .agg #[.int .i64 x.1, .int .i64 x.2.1, .int .i64 x.2.2]
/-- A heap by value. -/
abbrev hv (h : HeapD) (wv tv xv : Value) : Value := .agg #[.int .i64 h.last, .int .i64 h.size, .int .i64 h.cool, .int .i64 h.die, .int .i64 h.burn, .int .i64 h.start.1, .int .i64 h.start.2, wv, tv, xv]

theorem within_any (n l h : Int) (w : World) : Calls Try.prog 110 #[iv n, iv l, iv h] w (PV (.bool (inB n l h)) w) := by
  by_cases h1 : l ≤ n
  all_goals
    go_enter Try.func110, Try.ntmps110
    go_wp2
    go_returns
    exact ⟨by simp [inB]; omega, Below.refl _ _⟩

theorem of_any (r : Rng) (n : Int) (w : World) : Calls Try.prog 123 #[rv r, iv n] w (PV (.bool (okR r n)) w) := by
  go_enter Try.func123, Try.ntmps123
  go_wp2
  all_goals
    go_returns
    exact ⟨by simp [okR]; omega, by go_grown⟩

theorem has_any (r : Rng) (n : Int) (w : World) : Calls Try.prog 107 #[rv r, iv n] w (PV (.bool (inB n r.1 r.2)) w) := by
  go_enter Try.func107, Try.ntmps107
  go_wp2_with (go_at_call 110; refine (within_any _ _ _ _).mono ?_; rintro e w' ⟨rfl, hb⟩)
  go_returns
  exact ⟨by simp, (Below.refl _ _).alloc (Nat.le_refl _) _ |>.trans (hb.mono (by simp))⟩

theorem size_any (r : Rng) (w : World) (h1 : 0 ≤ r.1) (h2 : r.1 ≤ r.2) (h3 : r.2 ≤ 100000) :
    Calls Try.prog 102 #[rv r] w (PV (iv (sizeR r)) w) := by
  go_enter Try.func102, Try.ntmps102
  go_wp2
  go_returns
  exact ⟨by simp [sizeR], by go_grown⟩

theorem wet_any (r : Rng) (w : World) : Calls Try.prog 99 #[rv r] w (PV (.bool (okR r 20)) w) := by
  go_enter Try.func99, Try.ntmps99
  go_wp2_with (go_at_call 123; refine (of_any _ _ _).mono ?_; rintro e w' ⟨rfl, hb⟩)
  go_returns
  exact ⟨by simp, (Below.refl _ _).alloc (Nat.le_refl _) _ |>.trans (hb.mono (by simp))⟩

theorem hour_any (h : HeapD) (a b c : Value) (n : Int) (w : World) : Calls Try.prog 122 #[hv h a b c, iv n] w (PV (.bool (inB n 0 h.last)) w) := by
  go_enter Try.func122, Try.ntmps122
  go_wp2_with (go_at_call 110; refine (within_any _ _ _ _).mono ?_; rintro e w' ⟨rfl, hb⟩)
  go_returns
  exact ⟨by simp, (Below.refl _ _).alloc (Nat.le_refl _) _ |>.trans (hb.mono (by simp))⟩

theorem hours_any (h : HeapD) (a b c : Value) (w : World) (h0 : 0 ≤ h.last) (h9 : h.last ≤ 9) : Calls Try.prog 82 #[hv h a b c] w (PV (iv (h.last + 1)) w) := by
  go_enter Try.func82, Try.ntmps82
  go_wp2
  go_returns
  exact ⟨by simp, by go_grown⟩

theorem burns_any (h : HeapD) (a b c : Value) (n : Int) (w : World) : Calls Try.prog 69 #[hv h a b c, iv n] w (PV (.bool (decide (h.burn < n))) w) := by
  go_enter Try.func69, Try.ntmps69
  go_wp2
  go_returns
  exact ⟨by simp, by go_grown⟩
theorem dies_any (h : HeapD) (a b c : Value) (n : Int) (w : World) : Calls Try.prog 70 #[hv h a b c, iv n] w (PV (.bool (decide (n < h.die))) w) := by
  go_enter Try.func70, Try.ntmps70
  go_wp2
  go_returns
  exact ⟨by simp, by go_grown⟩

theorem lost_any (h : HeapD) (a b c : Value) (n : Int) (w : World) : Calls Try.prog 67 #[hv h a b c, iv n] w (PV (.bool (decide (h.burn < n) || decide (n < h.die))) w) := by
  go_enter Try.func67, Try.ntmps67
  go_wp2_with (first | (go_at_call 69; refine (burns_any _ _ _ _ _ _).mono ?_; rintro e w' ⟨rfl, hb⟩; obtain ⟨hc, hf⟩ := bcell hb; have hz0 : w.heap.size < w'.heap.size := (by have := hb.size; (try simp only [World.size_alloc] at this); omega)) | (go_at_call 70; refine (dies_any _ _ _ _ _ _).mono ?_; rintro e w' ⟨rfl, hb⟩; obtain ⟨hc, hf⟩ := bcell hb; have hz0 : w.heap.size < w'.heap.size := (by have := hb.size; (try simp only [World.size_alloc] at this); omega)))
  all_goals
    go_returns
    exact ⟨by simp [*], (by repeat (first | exact Below.refl _ _ | assumption | refine bgo ?_ (by assumption) | refine bgoAlloc ?_ _ | refine bgoDrew ?_ | refine bgoSet ?_ (by simp; omega) _))⟩

theorem numbers_any (h : HeapD) (a b c : Value) (w : World) : Calls Try.prog 97 #[hv h a b c] w (PV (.bool (numbersOk h)) w) := by
  go_enter Try.func97, Try.ntmps97
  go_wp2_with (first | (go_at_call 110; refine (within_any _ _ _ _).mono ?_; rintro e w' ⟨rfl, hb⟩; obtain ⟨hc, hf⟩ := bcell hb; have hz0 : w.heap.size < w'.heap.size := (by have := hb.size; (try simp only [World.size_alloc] at this); omega)) | (go_at_call 123; refine (of_any (_, _) _ _).mono ?_; rintro e w' ⟨rfl, hb⟩; obtain ⟨hc, hf⟩ := bcell hb; have hz0 : w.heap.size < w'.heap.size := (by have := hb.size; (try simp only [World.size_alloc] at this); omega)))
  all_goals
    go_returns
    exact ⟨by simp only [numbersOk]; simp [*]; try omega, (by repeat (first | exact Below.refl _ _ | assumption | refine bgo ?_ (by assumption) | refine bgoAlloc ?_ _ | refine bgoDrew ?_ | refine bgoSet ?_ (by simp; omega) _))⟩

end Go.Proofs.Ytoibfafmnaooaaa

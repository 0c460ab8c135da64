/-
  Contracts of package weed, second part: the error of a field; how many rows somebody did.
-/
import Derived.WalkKit
import Derived.WalkLawsBesides
import Derived.WalkSpells
import Derived.Outline
import Derived.Handy
import Derived.KernelRfl
import Derived.Lib.Hide
import Derived.Test.YtdjgikcnmokjkaaPA
namespace Go.Proofs.Ytdjgikcnmokjkaa
open Go.RowKit Go.RG Go.SL Go.Shelf Cou Go.TB
set_option maxHeartbeats 400000
set_option maxRecDepth 10000

theorem powF_bd {b : Int} (h1 : 1 ≤ b) (h4 : b ≤ 4) : ∀ k : Nat, k ≤ 7 → 1 ≤ b ^ k ∧ b ^ k ≤ 4 ^ k := by
  intro k
  induction k with
  | zero => intro _; simp
  | succ k ih =>
    intro hk
    obtain ⟨i1, i2⟩ := ih (by omega)
    rw [Int.pow_succ, Int.pow_succ]
    constructor
    · have := Int.mul_le_mul i1 h1 (by omega) (by omega); omega
    · exact Int.mul_le_mul i2 h4 (by omega) (by omega)
theorem powF_bd' {b : Int} (h1 : 1 ≤ b) (h4 : b ≤ 4) (k : Nat) (hk : k ≤ 7) : 1 ≤ b ^ k ∧ b ^ k ≤ 16384 := by
  obtain ⟨a, c⟩ := powF_bd h1 h4 k hk
  refine ⟨a, Int.le_trans c ?_⟩
  have : ∀ k : Nat, k ≤ 7 → (4 : Int) ^ k ≤ 16384 := by decide
  exact this k hk


theorem checkF_lim1 (f : FieldD) (o : Option Addr) (n c : Nat) (w : World) (a1 : 7 < f.rows) : Calls Try.prog 52 #[fv f (.slice o n c)] w (PV (iv 3) w) := by
  go_enter Try.func52, Try.ntmps52
  go_wp2
  go_returns
  exact ⟨by simp, (by repeat (first | exact Below.refl _ _ | assumption | refine bgo ?_ (by assumption) | refine bgoAlloc ?_ _ | refine bgoDrew ?_ | refine bgoSet ?_ (by simp; omega) _))⟩
theorem checkF_lim2 (f : FieldD) (o : Option Addr) (n c : Nat) (w : World) (a1 : ¬ 7 < f.rows) (a2 : 3 < f.weeders) : Calls Try.prog 52 #[fv f (.slice o n c)] w (PV (iv 3) w) := by
  go_enter Try.func52, Try.ntmps52
  go_wp2
  go_returns
  exact ⟨by simp, (by repeat (first | exact Below.refl _ _ | assumption | refine bgo ?_ (by assumption) | refine bgoAlloc ?_ _ | refine bgoDrew ?_ | refine bgoSet ?_ (by simp; omega) _))⟩
theorem checkF_lim3 (f : FieldD) (o : Option Addr) (n c : Nat) (w : World) (a1 : ¬ 7 < f.rows) (a2 : ¬ 3 < f.weeders) (a3 : (5 : Int) < n) : Calls Try.prog 52 #[fv f (.slice o n c)] w (PV (iv 3) w) := by
  go_enter Try.func52, Try.ntmps52
  go_wp2
  go_returns
  exact ⟨by simp, (by repeat (first | exact Below.refl _ _ | assumption | refine bgo ?_ (by assumption) | refine bgoAlloc ?_ _ | refine bgoDrew ?_ | refine bgoSet ?_ (by simp; omega) _))⟩
theorem checkF_arg1 (f : FieldD) (o : Option Addr) (n c : Nat) (w : World) (a1 : ¬ 7 < f.rows) (a2 : ¬ 3 < f.weeders) (a3 : ¬ (5 : Int) < n) (b1 : f.rows < 1) : Calls Try.prog 52 #[fv f (.slice o n c)] w (PV (iv 1) w) := by
  go_enter Try.func52, Try.ntmps52
  go_wp2
  go_returns
  exact ⟨by simp, (by repeat (first | exact Below.refl _ _ | assumption | refine bgo ?_ (by assumption) | refine bgoAlloc ?_ _ | refine bgoDrew ?_ | refine bgoSet ?_ (by simp; omega) _))⟩
theorem checkF_arg2 (f : FieldD) (o : Option Addr) (n c : Nat) (w : World) (a1 : ¬ 7 < f.rows) (a2 : ¬ 3 < f.weeders) (a3 : ¬ (5 : Int) < n) (b1 : ¬ f.rows < 1) (b2 : f.weeders < 1) : Calls Try.prog 52 #[fv f (.slice o n c)] w (PV (iv 1) w) := by
  go_enter Try.func52, Try.ntmps52
  go_wp2
  go_returns
  exact ⟨by simp, (by repeat (first | exact Below.refl _ _ | assumption | refine bgo ?_ (by assumption) | refine bgoAlloc ?_ _ | refine bgoDrew ?_ | refine bgoSet ?_ (by simp; omega) _))⟩
theorem checkF_arg3 (f : FieldD) (o : Option Addr) (n c : Nat) (w : World) (a1 : ¬ 7 < f.rows) (a2 : ¬ 3 < f.weeders) (a3 : ¬ (5 : Int) < n) (b1 : ¬ f.rows < 1) (b2 : ¬ f.weeders < 1) (b3 : okR f.left f.rows = false) :
    Calls Try.prog 52 #[fv f (.slice o n c)] w (PV (iv 1) w) := by
  go_enter Try.func52, Try.ntmps52
  go_wp2_with fail
  refine (frows_any f _ (_, _) _).mono ?_
  rintro e w' ⟨rfl, hb⟩
  obtain ⟨hc, hf⟩ := bcell hb
  have hz0 : w.heap.size < w'.heap.size := (by have := hb.size; (try simp only [World.size_alloc] at this); omega)
  rw [show okR (f.left.1, f.left.2) f.rows = false from b3]
  go_wp2_with fail
  go_returns
  exact ⟨by simp, (by repeat (first | exact Below.refl _ _ | assumption | refine bgo ?_ (by assumption) | refine bgoAlloc ?_ _ | refine bgoDrew ?_ | refine bgoSet ?_ (by simp; omega) _))⟩

/-- The walk through the checks that stand. -/
theorem checkF_arg4 (f : FieldD) (o : Option Addr) (c : Nat) (w : World) (hx : TalliesAt w (.slice o f.tallies.length c) f.tallies) (a1 : ¬ 7 < f.rows) (a2 : ¬ 3 < f.weeders) (a3 : ¬ (5 : Int) < f.tallies.length) (b1 : ¬ f.rows < 1) (b2 : ¬ f.weeders < 1) (b3 : okR f.left f.rows = true)
    (b4 : f.tallies.all (okTally f) = false) :
    Calls Try.prog 52 #[fv f (.slice o f.tallies.length c)] w (PV (iv 1) w) := by
  have HX := Lib.hid hx
  have HB4 := Lib.hid b4
  clear hx b4
  go_enter Try.func52, Try.ntmps52
  go_wp2_with fail
  refine (frows_any f _ (_, _) _).mono ?_
  rintro e w' ⟨rfl, hb⟩
  obtain ⟨hc, hf⟩ := bcell hb
  have hz0 : w.heap.size < w'.heap.size := (by have := hb.size; (try simp only [World.size_alloc] at this); omega)
  have HB := Lib.hid (show Below w.heap.size w w' from (by repeat (first | exact Below.refl _ _ | assumption | refine bgo ?_ (by assumption) | refine bgoAlloc ?_ _ | refine bgoDrew ?_ | refine bgoSet ?_ (by simp; omega) _)))
  clear hb
  rw [show okR (f.left.1, f.left.2) f.rows = true from b3]
  go_wp2_with fail
  refine (allT_pure f.tallies (.slice o f.tallies.length c) 84 #[fv f (.slice o f.tallies.length c)] #[] (okTally f) w' (HX.out.below HB.out (Nat.le_refl _)) (enters_of Try.func84 (by kernel_rfl) rfl) (fun x _ W _ => tally_any f _ x W (by omega) (by omega) (by omega) (by omega))).mono ?_
  rw [HB4.out]
  rintro e w2 ⟨rfl, hb⟩
  obtain ⟨hc2, hf2⟩ := bcell hb
  have hz2 : w.heap.size < w2.heap.size := by have := hb.size; omega
  have HB2 := Lib.hid (bgo HB.out hb)
  clear hb
  go_wp2_with fail
  go_returns
  exact ⟨by simp, HB2.out⟩

theorem checkF_good (f : FieldD) (o : Option Addr) (c : Nat) (w : World) (hx : TalliesAt w (.slice o f.tallies.length c) f.tallies) (a1 : ¬ 7 < f.rows) (a2 : ¬ 3 < f.weeders) (a3 : ¬ (5 : Int) < f.tallies.length) (b1 : ¬ f.rows < 1) (b2 : ¬ f.weeders < 1) (b3 : okR f.left f.rows = true)
    (b4 : f.tallies.all (okTally f) = true) (r : Int) (hr : r = if 2500 < (f.weeders + 1) ^ f.rows.toNat then 3 else 0) :
    Calls Try.prog 52 #[fv f (.slice o f.tallies.length c)] w (PV (iv r) w) := by
  have HX := Lib.hid hx
  have HB4 := Lib.hid b4
  have hbase : 1 ≤ f.weeders + 1 ∧ f.weeders + 1 ≤ 4 := by omega
  have HP := Lib.hid (fun (k : Nat) (hk : k ≤ 7) => powF_bd' hbase.1 hbase.2 k hk)
  obtain ⟨n, hn⟩ : ∃ n : Nat, f.rows = n := ⟨f.rows.toNat, by omega⟩
  have hn7 : n ≤ 7 := by omega
  have HR : Hid (r = if 2500 < (f.weeders + 1) ^ n then 3 else 0) := Lib.hid (by rw [hr, hn]; rfl)
  have HN := Lib.hid hn
  clear hx b4 hbase hr hn
  go_enter Try.func52, Try.ntmps52
  go_wp2_with fail
  refine (frows_any f _ (_, _) _).mono ?_
  rintro e w' ⟨rfl, hb⟩
  obtain ⟨hc, hf⟩ := bcell hb
  have hz0 : w.heap.size < w'.heap.size := (by have := hb.size; (try simp only [World.size_alloc] at this); omega)
  have HB := Lib.hid (show Below w.heap.size w w' from (by repeat (first | exact Below.refl _ _ | assumption | refine bgo ?_ (by assumption) | refine bgoAlloc ?_ _ | refine bgoDrew ?_ | refine bgoSet ?_ (by simp; omega) _)))
  clear hb
  rw [show okR (f.left.1, f.left.2) f.rows = true from b3]
  go_wp2_with fail
  refine (allT_pure f.tallies (.slice o f.tallies.length c) 84 #[fv f (.slice o f.tallies.length c)] #[] (okTally f) w' (HX.out.below HB.out (Nat.le_refl _)) (enters_of Try.func84 (by kernel_rfl) rfl) (fun x _ W _ => tally_any f _ x W (by omega) (by omega) (by omega) (by omega))).mono ?_
  rw [HB4.out]
  rintro e w2 ⟨rfl, hb⟩
  obtain ⟨hc2, hf2⟩ := bcell hb
  have hz2 : w.heap.size < w2.heap.size := by have := hb.size; omega
  have HB2 := Lib.hid (bgo HB.out hb)
  clear hb
  go_wp2_with fail
  go_loop [4, 47] (fun m i => ∃ k : Nat, k ≤ n ∧ i = .int .i64 k ∧ m = .int .i64 ((f.weeders + 1) ^ k)) (fun _ i => n - (intOf i).toNat)
  case atStart => exact ⟨0, Nat.zero_le _, rfl, by simp⟩
  case round =>
    obtain ⟨k, hk, rfl, rfl⟩ := hrel
    obtain ⟨p1, p2⟩ := HP.out k (by omega)
    by_cases hlt : k < n
    · have hkI : (k : Int) < f.rows := by have := HN.out; omega
      obtain ⟨q1, q2⟩ := HP.out (k + 1) (by omega)
      have HE := Lib.hid (Int.pow_succ (f.weeders + 1) k)
      rw [Int.pow_succ] at q1 q2
      generalize (f.weeders + 1) ^ k = m at p1 p2 q1 q2 HE ⊢
      go_wp2
      go_round
      case rel => exact ⟨k + 1, by omega, by go_num, by rw [HE.out]⟩
      case measure => simp [intOf]; omega
    · have hkn : k = n := by omega
      subst hkn
      have hkI : ¬ (k : Int) < f.rows := by have := HN.out; omega
      generalize (f.weeders + 1) ^ k = m at p1 p2 HR ⊢
      by_cases hm : 2500 < m
      · go_wp2
        go_returns
        exact ⟨by rw [HR.out, if_pos hm]; simp, HB2.out⟩
      · go_wp2
        go_returns
        exact ⟨by rw [HR.out, if_neg (by omega)]; simp, HB2.out⟩

theorem checkF_any (f : FieldD) (tv : Value) (w : World) (hx : TalliesAt w tv f.tallies) :
    Calls Try.prog 52 #[fv f tv] w (PV (iv (faultF f)) w) := by
  obtain ⟨o, c, rfl⟩ := hx.open
  by_cases ha : 7 < f.rows ∨ 3 < f.weeders ∨ 5 < f.tallies.length
  · rw [show faultF f = 3 from by unfold faultF; rw [if_pos ha]]
    by_cases a1 : 7 < f.rows
    · exact checkF_lim1 f o _ c w a1
    by_cases a2 : 3 < f.weeders
    · exact checkF_lim2 f o _ c w a1 a2
    exact checkF_lim3 f o _ c w a1 a2 (by omega)
  obtain ⟨a1, a2, a3⟩ : ¬ 7 < f.rows ∧ ¬ 3 < f.weeders ∧ ¬ (5 : Int) < f.tallies.length := by omega
  rw [show faultF f = if f.rows < 1 ∨ f.weeders < 1 ∨ okR f.left f.rows = false ∨ f.tallies.all (okTally f) = false then 1 else if 2500 < (f.weeders + 1) ^ f.rows.toNat then 3 else 0 from by
    unfold faultF; rw [if_neg ha]]
  by_cases b1 : f.rows < 1
  · rw [if_pos (.inl b1)]
    exact checkF_arg1 f o _ c w a1 a2 a3 b1
  by_cases b2 : f.weeders < 1
  · rw [if_pos (.inr (.inl b2))]
    exact checkF_arg2 f o _ c w a1 a2 a3 b1 b2
  by_cases b3 : okR f.left f.rows = false
  · rw [if_pos (.inr (.inr (.inl b3)))]
    exact checkF_arg3 f o _ c w a1 a2 a3 b1 b2 b3
  by_cases b4 : f.tallies.all (okTally f) = false
  · rw [if_pos (.inr (.inr (.inr b4)))]
    exact checkF_arg4 f o c w hx a1 a2 a3 b1 b2 (by simpa using b3) b4
  exact checkF_good f o c w hx a1 a2 a3 b1 b2 (by simpa using b3) (by simpa using b4) _ (by rw [if_neg (by simp only [not_or]; exact ⟨b1, b2, b3, b4⟩)])

end Go.Proofs.Ytdjgikcnmokjkaa

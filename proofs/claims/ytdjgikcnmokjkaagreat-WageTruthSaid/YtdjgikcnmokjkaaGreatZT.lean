/-
  Contracts of the law's word, in.
-/
import Derived.WalkKit
import Derived.WalkLawsBesides
import Derived.WalkSpells
import Derived.Outline
import Derived.Handy
import Derived.KernelRfl
import Derived.Lib.Hide
import Derived.Test.YtdjgikcnmokjkaaGreatZC
import Derived.Test.YtdjgikcnmokjkaaGreatOJ
namespace Go.Proofs.YtdjgikcnmokjkaaGreat
open Go.RowKit Go.RG Go.SL Go.Shelf Cou Go.TB
set_option maxHeartbeats 400000
set_option maxRecDepth 10000

theorem getD_lt {l : List (Fin 65536)} {i : Nat} {d : Fin 65536} (h : i < l.length) : l.getD i d = l[i] := by simp [List.getD, h]
def wordV (l : List (Fin 65536)) (n : Int) : Int := if l.length = 0 then 0 else ((l.getD (n % l.length).toNat 0).val : Int)
theorem wordV_bd (l : List (Fin 65536)) (n : Int) : 0 ≤ wordV l n ∧ wordV l n ≤ 65535 := by
  unfold wordV
  split
  · decide
  · have := (l.getD (n % l.length).toNat 0).isLt
    omega

theorem word_any (l : List (Fin 65536)) (v : Value) (n : Int) (w : World) (hv : WordsAt w v l) (h0 : 0 ≤ n) : Calls Tryz.prog 91 #[v, iv n] w (PV (iv (wordV l n)) w) := by
  have hlen := hv.len
  obtain ⟨o, c, rfl⟩ := hv.open
  have HV := Lib.hid hv
  clear hv
  by_cases hl : l.length = 0
  · have hlb : ((l.length : Int) == 0) = true := by simp [hl]
    have HQ : Hid (wordV l n = 0) := Lib.hid (by unfold wordV; rw [if_pos hl])
    rw [HQ.out]
    clear hl
    go_enter Tryz.func91, Tryz.ntmps91
    go_wp2_with fail
    go_returns
    exact ⟨by simp, Below.refl _ _⟩
  · have hlb : ((l.length : Int) == 0) = false := by rw [beq_eq_false_iff_ne]; omega
    obtain ⟨J, hJ⟩ : ∃ J : Nat, n % (l.length : Int) = J := Int.eq_ofNat_of_zero_le (Int.emod_nonneg _ (by omega))
    have hJI : (J : Int) < l.length := by have := Int.emod_lt_of_pos n (show 0 < (l.length : Int) by omega); omega
    have hJl : J < l.length := by omega
    obtain ⟨b, off, rfl, _, d1⟩ := WordsAt.cell HV.out hJl
    have HQ : Hid (wordV l n = (l[J].val : Int)) := Lib.hid (by unfold wordV; rw [if_neg hl, hJ, Int.toNat_natCast, getD_lt hJl])
    rw [HQ.out]
    have hx := l[J].isLt
    generalize l[J] = x at *
    obtain ⟨y, hy⟩ : ∃ y : Int, (x.val : Int) = y := ⟨_, rfl⟩
    have hy0 : 0 ≤ y ∧ y ≤ 65535 := by omega
    rw [hy] at d1
    rw [hy]
    clear hy hx HQ
    go_enter Tryz.func91, Tryz.ntmps91
    go_wp2_with fail
    go_returns
    exact ⟨by simp, Below.refl _ _⟩

theorem in_any (n : Int) (r : Rng) (w : World) : Calls Tryz.prog 40 #[iv n, rv r] w (PV (.bool (inB n r.1 r.2)) w) := by
  obtain ⟨lo, hi⟩ := r
  obtain ⟨a, ha⟩ : ∃ a, decide (lo ≤ n) = a := ⟨_, rfl⟩
  obtain ⟨b, hb⟩ : ∃ b, decide (n ≤ hi) = b := ⟨_, rfl⟩
  have HQ : Hid (inB n lo hi = (a && b)) := Lib.hid (by unfold inB; rw [ha, hb])
  show Calls Tryz.prog 40 #[iv n, rv (lo, hi)] w (PV (.bool (inB n lo hi)) w)
  rw [HQ.out]
  cases a
  case _ =>
    go_enter Tryz.func40, Tryz.ntmps40
    go_wp2_with fail
    go_returns
    exact ⟨by simp, bgoAlloc (Below.refl _ _) _⟩
  case _ =>
    go_enter Tryz.func40, Tryz.ntmps40
    go_wp2_with fail
    go_returns
    exact ⟨by simp, bgoAlloc (Below.refl _ _) _⟩

end Go.Proofs.YtdjgikcnmokjkaaGreat

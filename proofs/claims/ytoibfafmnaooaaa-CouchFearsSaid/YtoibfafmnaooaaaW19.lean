/-
  Contracts of package couch, eighteenth part: shortest.
-/
import Derived.WalkKit
import Derived.WalkLawsBesides
import Derived.WalkSpells
import Derived.Outline
import Derived.Handy
import Derived.KernelRfl
import Derived.Lib.Hide
import Derived.Test.YtoibfafmnaooaaaW18
import Derived.WalkMore
import Derived.Deep.LoopGhost
namespace Go.Proofs.Ytoibfafmnaooaaa
open Go.RowKit Go.RG Go.SL Go.Shelf Cou
set_option maxHeartbeats 400000
set_option maxRecDepth 10000

theorem ints_nil (w : World) : IntsAt w (.slice none 0 0) [] := ⟨rfl, none, 0, rfl, Nat.le_refl _, by decide, fun _ => rfl, fun a h => by cases h⟩

theorem shortL_at {below k : Nat} {p : List Int → Bool} {c : List Int} (hk : k ≤ below) (h1 : ∀ j, j < k → (combs below j 0).find? p = none) (h2 : (combs below k 0).find? p = some c) : shortL below p = some c := by
  unfold shortL
  refine find_flat_first p _ _ k (by simp; omega) c (fun j hj => ?_) ?_
  · simp only [List.getElem_range]; exact h1 j hj
  · simp only [List.getElem_range]; exact h2
theorem shortL_no {below : Nat} {p : List Int → Bool} (h1 : ∀ j, j < below + 1 → (combs below j 0).find? p = none) : shortL below p = none := by
  unfold shortL
  refine find_flat_none p _ _ fun j hj => ?_
  simp only [List.length_range] at hj
  simp only [List.getElem_range]; exact h1 j hj

/-- What shortest returns. -/
def ShPost (mb : Nat) (cool : Int) (r : Option (List Int)) (w : World) (e : Ending) (W' : World) : Prop :=
  (Cache W' mb cool ∧ Ext [mb] w W') ∧ ((∃ c v, r = some c ∧ e = .returned (.tuple #[v, .bool true]) ∧ IntsAt W' v c) ∨ (r = none ∧ ∃ o n c, e = .returned (.tuple #[.slice o n c, .bool false])))

theorem ShSt.fin {w0 W : World} {mb : Nat} {cool : Int} {pfn : Value} {below fb pb bb ab : Nat} (h : ShSt w0 mb cool pfn below fb pb bb ab W) : Cache W mb cool ∧ Ext [mb] w0 W := ⟨h.cache, h.ext⟩

set_option maxHeartbeats 2000000 in
theorem shortest_any (below : Nat) (hbl : below ≤ 500) (p : List Int → Bool) (mb : Nat) (cool : Int) (w : World) (hcc : Cache w mb cool) (pf : Nat) (pfst pcaps : Array Value)
    (eg : ∀ args w, (callFunc pf args).run Try.prog w = .ok (.enter pf args) w)
    (hpass : ∀ l v W, Ext [mb] w W → Cache W mb cool → IntsAt W v l → Calls Try.prog pf (pfst.push v ++ pcaps) W (fun e W' => e = .returned (.bool (p l)) ∧ Cache W' mb cool ∧ Ext [mb] W W')) :
    Calls Try.prog 73 #[iv below, .func (.func pf) pfst pcaps] w (ShPost mb cool (shortL below p) w) := by
  have hmb := hcc.lt
  have HA := Lib.hid (fun (m : Nat) (W : World) (hm : m ≤ 501) (hst : ShSt w mb cool (.func (.func pf) pfst pcaps) below (w.heap.size + 1 + 1) (w.heap.size + 1) w.heap.size (w.heap.size + 1 + 1 + 1) W) =>
    add_any below hbl p mb cool w pf pfst pcaps (w.heap.size + 1 + 1) (w.heap.size + 1) w.heap.size (w.heap.size + 1 + 1 + 1) (by omega) eg hpass m 0 [] (.slice none 0 0) W (by simp; omega) (by omega) (by omega) hst (ints_nil W))
  obtain ⟨r, hr⟩ : ∃ r, shortL below p = r := ⟨_, rfl⟩
  rw [hr]
  have HR := Lib.hid hr
  have HCC := Lib.hid hcc
  clear hpass eg hcc hr
  go_enter Try.func73, Try.ntmps73
  go_wp2_with fail
  go_step3
  go_wp2_with fail
  go_step3
  go_wp2_with fail
  obtain ⟨w4, hw4⟩ : ∃ w4, ((((w.alloc (.cells #[iv below] 3)).alloc (.cells #[.func (.func pf) pfst pcaps] 119)).alloc (.cells #[.slice none 0 0] 25)).alloc
      (.cells #[.func (.func 106) #[] #[.pointer (some ⟨w.heap.size + 1 + 1, 0, none⟩), .pointer (some ⟨w.heap.size + 1, 0, none⟩), .pointer (some ⟨w.heap.size, 0, none⟩), .pointer (some ⟨w.heap.size + 1 + 1 + 1, 0, none⟩)]] 149)) = w4 := ⟨_, rfl⟩
  have hst0 : ShSt w mb cool (.func (.func pf) pfst pcaps) below (w.heap.size + 1 + 1) (w.heap.size + 1) w.heap.size (w.heap.size + 1 + 1 + 1) w4 := by
    have hB : Below w.heap.size w w4 := by rw [← hw4]; exact (by repeat (first | exact Below.refl _ _ | assumption | refine bgo ?_ (by assumption) | refine bgoAlloc ?_ _ | refine bgoDrew ?_ | refine bgoSet ?_ (by simp; omega) _))
    refine ⟨Ext.of_below hB, HCC.out.kept (hB.block mb hmb), ⟨none, 0, 0, ?_⟩, ?_, ?_, ?_, by omega, hmb⟩
    · rw [← hw4]; exact (Below.heap_alloc _ _ _ (by simp)).trans (heap_new2 _ _ _ _)
    · rw [← hw4]; exact (Below.heap_alloc _ _ _ (by simp)).trans ((Below.heap_alloc _ _ _ (by simp)).trans (heap_new1 _ _ _))
    · rw [← hw4]; exact (Below.heap_alloc _ _ _ (by simp; omega)).trans ((Below.heap_alloc _ _ _ (by simp; omega)).trans ((Below.heap_alloc _ _ _ (by simp)).trans (heap_new0 _ _)))
    · rw [← hw4]; have := heap_new0 (((w.alloc (.cells #[iv below] 3)).alloc (.cells #[.func (.func pf) pfst pcaps] 119)).alloc (.cells #[.slice none 0 0] 25)) (.cells #[.func (.func 106) #[] #[.pointer (some ⟨w.heap.size + 1 + 1, 0, none⟩), .pointer (some ⟨w.heap.size + 1, 0, none⟩), .pointer (some ⟨w.heap.size, 0, none⟩), .pointer (some ⟨w.heap.size + 1 + 1 + 1, 0, none⟩)]] 149); simpa using this
  rw [hw4]
  have HS0 := Lib.hid hst0
  clear hst0 hw4
  go_loopw [5, 11] (fun b i wr => ∃ k : Nat, k ≤ below + 1 ∧ b = .bool false ∧ i = .int .i64 k ∧ ShSt w mb cool (.func (.func pf) pfst pcaps) below (w.heap.size + 1 + 1) (w.heap.size + 1) w.heap.size (w.heap.size + 1 + 1 + 1) wr ∧
      (∀ j, j < k → (combs below j 0).find? p = none)) (fun _ i _ => below + 1 - (intOf i).toNat)
  case atStart => exact ⟨0, Nat.zero_le _, rfl, rfl, HS0.out, fun j hj => by omega⟩
  case round =>
    obtain ⟨k, hk, rfl, rfl, hst, hno⟩ := hrel
    have d2 := cell_of_block0 hst.add
    have e2 := World.block_lt_of_cell? wr _ d2
    have HS := Lib.hid hst
    have HN := Lib.hid hno
    clear hst hno
    by_cases hlt : k < below + 1
    · have hkI : (k : Int) < (below : Int) + 1 := by omega
      have HC := Lib.hid (HA.out k wr (by omega) HS.out)
      go_wp2_with fail
      refine HC.out.mono ?_
      rintro e W2 ⟨⟨hS2, _⟩, hres⟩
      have HS2 := Lib.hid hS2
      rcases hres with ⟨cc, hcc, rfl, sv, hsv, hiv⟩ | ⟨hnone, rfl⟩
      · have hr : r = some cc := by
          rw [← HR.out]
          exact shortL_at (by omega) HN.out (by simpa using hcc)
        obtain ⟨so, sc, rfl⟩ := hiv.open
        have f1 := cell_of_block0 hsv
        have f2 := frozen_of_block hsv 0
        have f3 := World.block_lt_of_cell? W2 _ f1
        have HX := Lib.hid (And.intro hr (And.intro hsv hiv))
        clear hr hsv hiv hS2 hcc d2
        go_wp2_with fail
        (try rw [Exit.noGoto_ret])
        have hcell : (W2.setCell ⟨w.heap.size + 1 + 1, 0, none⟩ (.slice so cc.length sc)).cell? ⟨w.heap.size + 1 + 1, 0, none⟩ = some (.slice so cc.length sc) := cell_of_block0 (set_block HX.out.2.1 _)
        refine bodyPost_ret (v := .tuple #[.slice so cc.length sc, .bool true]) (by simp [results, Try.results73, go_sem, hcell]) rfl ?_
        refine ⟨(HS2.out.set (by omega) so cc.length sc).fin, .inl ⟨cc, _, HX.out.1, rfl, ?_⟩⟩
        exact IntsAt.ext_not HX.out.2.2 ((ext_set W2 ⟨w.heap.size + 1 + 1, 0, none⟩ _).more (Ms' := [mb, w.heap.size + 1 + 1]) (by simp)) HS2.out.not
      · have HX := Lib.hid hnone
        clear hnone hS2 d2
        go_wp2_with fail
        go_roundw
        case rel =>
          refine ⟨k + 1, by omega, rfl, by go_num, HS2.out, fun j hj => ?_⟩
          by_cases hjq : j = k
          · subst hjq; simpa using HX.out
          · exact HN.out j (by omega)
        case measure => simp [intOf]; omega
    · have hkI : ¬ ((k : Int) < (below : Int) + 1) := by omega
      obtain ⟨o', n', c', hf⟩ := HS.out.found
      have f1 := cell_of_block0 hf
      have f2 := frozen_of_block hf 0
      have f3 := World.block_lt_of_cell? wr _ f1
      have hk1 : k = below + 1 := by omega
      subst hk1
      have hr : r = none := by
        rw [← HR.out]
        exact shortL_no HN.out
      go_wp2_with fail
      (try rw [Exit.noGoto_ret])
      have hcell : (wr.setCell ⟨w.heap.size + 1 + 1, 0, none⟩ (.slice o' n' c')).cell? ⟨w.heap.size + 1 + 1, 0, none⟩ = some (.slice o' n' c') := cell_of_block0 (set_block hf _)
      refine bodyPost_ret (v := .tuple #[.slice o' n' c', .bool false]) (by simp [results, Try.results73, go_sem, hcell]) rfl ?_
      exact ⟨(HS.out.set (by omega) o' n' c').fin, .inr ⟨rfl, _, _, _, rfl⟩⟩

end Go.Proofs.Ytoibfafmnaooaaa

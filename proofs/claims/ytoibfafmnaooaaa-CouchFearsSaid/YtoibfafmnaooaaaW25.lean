/-
  Contracts of package couch, twenty-fourth part: Leave, First.
-/
import Derived.WalkKit
import Derived.WalkLawsBesides
import Derived.WalkSpells
import Derived.Outline
import Derived.Handy
import Derived.KernelRfl
import Derived.Lib.Hide
import Derived.Test.YtoibfafmnaooaaaW24
namespace Go.Proofs.Ytoibfafmnaooaaa
open Go.RowKit Go.RG Go.SL Go.Shelf Cou
set_option maxHeartbeats 400000
set_option maxRecDepth 10000

/-- What is said of the new heap at work, until shortest is called. -/
def lvPs (B : Nat) (h : HeapD) (a b c : Value) : Pres := fun i _ v W =>
  match i with
  | 4 => ∃ wb mb : Nat, v = .pointer (some ⟨wb, 0, none⟩) ∧ B ≤ mb ∧ WorkAt W wb mb h a b c
  | _ => True

theorem Leave_any (h : HeapD) (wv tv xv' : Value) (w : World) (hw : PairsAt w wv h.wet) (ht : IntsAt w tv h.turns) (hx : TriplesAt w xv' h.readings) :
    Calls Try.prog 28 #[hv h wv tv xv'] w (fun e w' => ∃ v, e = .returned (.tuple #[v, iv (fault h)]) ∧ IntsAt w' v (leaveL h) ∧ Below w.heap.size w w') := by
  obtain ⟨ow, cw, rfl⟩ := hw.open
  obtain ⟨ot, ct, rfl⟩ := ht.open
  obtain ⟨ox, cx, rfl⟩ := hx.open
  have HW := Lib.hid hw
  have HT := Lib.hid ht
  have HX := Lib.hid hx
  clear hw ht hx
  by_cases hf0 : fault h = 0
  case neg =>
    have hl : leaveL h = [] := by unfold leaveL; rw [if_pos hf0]
    rw [hl]
    clear hl
    generalize hff : fault h = f at *
    have HF := Lib.hid hff
    clear hff
    go_enter Try.func28, Try.ntmps28
    go_wp2_with fail
    refine (check_any h _ _ _ _ (HW.out.alloc _) (HT.out.alloc _) (HX.out.alloc _)).mono ?_
    rintro e w' ⟨rfl, hb⟩
    rw [HF.out]
    have HB := Lib.hid hb
    clear hb
    go_wp2_with fail
    go_returns
    exact ⟨.slice none 0 0, by simp, ints_nil _, bgo (bgoAlloc (Below.refl _ _) _) HB.out⟩
  have hS := sound_of hf0
  obtain ⟨c0, hc0⟩ := leaveS_some hS
  have hl : leaveL h = c0 := by unfold leaveL; rw [if_neg (by simpa using hf0), hc0]; rfl
  have hn5 := hS.rdgs
  rw [hl, hf0]
  have HF := Lib.hid hf0
  have HSS := Lib.hid hS
  have HC := Lib.hid hc0
  clear hf0 hS hc0 hl
  go_enter Try.func28, Try.ntmps28
  go_wp2_with fail
  refine (check_any h _ _ _ _ (HW.out.alloc _) (HT.out.alloc _) (HX.out.alloc _)).mono ?_
  rintro e w1 ⟨rfl, hb⟩
  rw [HF.out]
  have hb0 : w1.heap[w.heap.size]? = some (.cells #[.int .i64 h.last, .int .i64 h.size, .int .i64 h.cool, .int .i64 h.die, .int .i64 h.burn, .int .i64 h.start.1, .int .i64 h.start.2, .slice ow h.wet.length cw, .slice ot h.turns.length ct, .slice ox h.readings.length cx] 40 (0, 0)) := (hb.block _ (by simp)).trans (heap_new0 _ _)
  have hc1 : ∀ i, w1.cell? ⟨w.heap.size, i, none⟩ = (#[.int .i64 h.last, .int .i64 h.size, .int .i64 h.cool, .int .i64 h.die, .int .i64 h.burn, .int .i64 h.start.1, .int .i64 h.start.2, .slice ow h.wet.length cw, .slice ot h.turns.length ct, .slice ox h.readings.length cx] : Array Value)[i]? := fun i => by
    simp only [World.cell?, hb0]; rfl
  have s0 := (Array.getElem?_eq_some_iff.1 hb0).1
  have HB := Lib.hid (bgo (bgoAlloc (Below.refl _ _) _) hb)
  clear hb hb0
  go_wp2_with fail
  refine wp_region_rgP 12 [] (some 6) [(4, ⟨fun _ v => ∃ wb : Nat, v = .pointer (some ⟨wb, 0, none⟩), fun _ _ _ => True⟩), (6, ⟨fun _ v => ∃ o c, v = .tuple #[.slice o c0.length c, .bool true], fun _ v W => ∃ s, v = .tuple #[s, .bool true] ∧ IntsAt W s c0⟩)] (lvPs w1.heap.size h (.slice ow h.wet.length cw) (.slice ot h.turns.length ct) (.slice ox h.readings.length cx)) (by kernel_rfl) (by kernel_rfl) ?_
  simp only [List.take_succ_cons, List.take_zero, List.drop_succ_cons, List.drop_zero]
  repeat (refine tree_det (by rfl) _ (by rfl) (fun W hW => by go_simp; (try simp (disch := omega) only [IntWalk.i64_in, Int.tdiv_eq_ediv_of_nonneg]); try rfl) ?_; simp only [Act.put, List.setIfInBounds_toArray, List.set_cons_succ, List.set_cons_zero])
  refine tree_pre _ (by rfl) (by rfl) (by exact ⟨.pointer (some ⟨0, 0, none⟩), 0, rfl⟩) (fun W hE hF hG => ?_) (fun _ _ _ _ _ => trivial) (fun v Wa Wb ho hE => ?_) (fun v hv => ?_)
  · have hE' : ExtN w1.heap.size [] w1 W := hE
    have hs3 := hE'.size
    refine does_enter 71 #[hv h (.slice ow h.wet.length cw) (.slice ot h.turns.length ct) (.slice ox h.readings.length cx)] (by go_simp; try rfl) ?_
    refine (work_any h ow ot ox _ _ _ _ _ _ W).mono ?_
    rintro e W' ⟨wb, mb, rfl, h1, h2, h3, h4⟩
    exact ⟨_, rfl, ⟨wb, rfl⟩, trivial, Ext.of_below h4, ⟨wb, mb, rfl, by omega, h3⟩⟩
  · obtain ⟨wb, mb, rfl, h1, h2⟩ := ho
    exact ⟨wb, mb, rfl, h1, h2.below hE.below (Nat.le_refl _)⟩
  obtain ⟨wb, rfl⟩ := hv
  simp only [Act.put, List.setIfInBounds_toArray, List.set_cons_succ, List.set_cons_zero]
  repeat (refine tree_det (by rfl) _ (by rfl) (fun W hW => by go_simp; (try simp (disch := omega) only [IntWalk.i64_in, Int.tdiv_eq_ediv_of_nonneg]); try rfl) ?_; simp only [Act.put, List.setIfInBounds_toArray, List.set_cons_succ, List.set_cons_zero])
  refine tree_pre _ (by rfl) (by rfl) (by exact ⟨.tuple #[.slice none c0.length 0, .bool true], none, 0, rfl⟩) (fun w2 hE hF hG => ?_) (fun v Wa Wb ho hE => ?_) (fun _ _ _ _ _ => trivial) (fun v hv => ?_)
  · have hE' : Ext [] w1 w2 := hE
    obtain ⟨wb', mb, hwb, hm1, hwk⟩ := hG rfl _ (List.Mem.head _) (by kernel_rfl)
    cases hwb
    have hB2 := bgo HB.out hE'.below
    have hcc := hwk.cache
    refine does_enter 73 #[iv h.readings.length, .func (.func 72) #[.pointer (some ⟨wb, 0, none⟩)] #[]] (by go_simp; try rfl) ?_
    refine (shortest_any h.readings.length (by omega) (canL h) mb h.cool w2 hcc 72 #[.pointer (some ⟨wb, 0, none⟩)] #[] (enters_of Try.func72 (by kernel_rfl) rfl)
      (fun l v W hE3 hc3 hv => by
        have hm : ∀ x ∈ [mb], ∀ o, w2.cell? ⟨x, o, none⟩ = none := fun x hx o => by
          obtain rfl : x = mb := by simpa using hx
          exact hcc.noCell o
        refine (possible_any h HSS.out (.slice ow h.wet.length cw) (.slice ot h.turns.length ct) (.slice ox h.readings.length cx) v l wb mb W (hwk.ext hE3 hc3) ((HW.out.below hB2 (Nat.le_refl _)).ext_other hE3 hm) ((HT.out.below hB2 (Nat.le_refl _)).ext_other hE3 hm) ((HX.out.below hB2 (Nat.le_refl _)).ext_other hE3 hm) hv).mono ?_
        rintro e W' ⟨rfl, h1, h2⟩
        exact ⟨rfl, h1, h2⟩)).mono ?_
    rintro e w3 ⟨⟨_, hE3⟩, ⟨cc, v, hcs, rfl, hiv⟩ | ⟨hnone, _⟩⟩
    · have hceq : cc = c0 := by
        have := HC.out
        unfold leaveS at this
        rw [this] at hcs
        injection hcs with e
        exact e.symm
      subst hceq
      obtain ⟨vo, vc, rfl⟩ := hiv.open
      exact ⟨_, rfl, ⟨vo, vc, rfl⟩, ⟨_, rfl, hiv⟩, ⟨hE3.os, hE3.tape, hE3.output, hE3.size, fun k hk hb _ => hE3.block k hk (by simp; omega)⟩, trivial⟩
    · have := HC.out
      unfold leaveS at this
      rw [this] at hnone
      cases hnone
  · obtain ⟨s, hs, hiv⟩ := ho
    exact ⟨s, hs, hiv.below (Ext.below hE) (Nat.le_refl _)⟩
  obtain ⟨vo, vc, rfl⟩ := hv
  simp only [Act.put, List.setIfInBounds_toArray, List.set_cons_succ, List.set_cons_zero]
  repeat (refine tree_det (by rfl) _ (by rfl) (fun W hW => by go_simp; (try simp (disch := omega) only [IntWalk.i64_in, Int.tdiv_eq_ediv_of_nonneg]); try rfl) ?_; simp only [Act.put, List.setIfInBounds_toArray, List.set_cons_succ, List.set_cons_zero])
  intro w4 hE4 hF4
  have hB4 := below_extN (show ExtN w1.heap.size [] w1 w4 from hE4) (Nat.le_refl _)
  obtain ⟨s, hs, hiv⟩ := hF4 _ (List.Mem.head _)
  cases hs
  have HR := Lib.hid (And.intro hiv (bgo HB.out hB4))
  clear hE4 hF4 hB4 hiv hc1
  go_wp2_with fail
  go_returns
  exact ⟨_, by simp, HR.out.1, HR.out.2⟩

end Go.Proofs.Ytoibfafmnaooaaa

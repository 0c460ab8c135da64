/-
  Contracts of package couch, fourteenth part: asked.
-/
import Derived.WalkKit
import Derived.WalkLawsBesides
import Derived.WalkSpells
import Derived.Outline
import Derived.Handy
import Derived.KernelRfl
import Derived.Lib.Hide
import Derived.Test.YtoibfafmnaooaaaW14
namespace Go.Proofs.Ytoibfafmnaooaaa
open Go.RowKit Go.RG Go.SL Go.Shelf Cou
set_option maxHeartbeats 400000
set_option maxRecDepth 10000

def askErr (h : HeapD) (turns : List Int) : Int := if fault h ≠ 0 then fault h else if isTurns h.last turns = false then 2 else if (truthsL h []).isEmpty then 11 else 0

/-- What asked returns. -/
def AskPost (h : HeapD) (a b c : Value) (turns : List Int) (w : World) (e : Ending) (w' : World) : Prop :=
  Below w.heap.size w w' ∧ ((askErr h turns ≠ 0 ∧ e = .returned (.tuple #[.pointer none, .int .i64 (askErr h turns)])) ∨
    (askErr h turns = 0 ∧ ∃ wb mb : Nat, e = .returned (.tuple #[.pointer (some ⟨wb, 0, none⟩), .int .i64 0]) ∧ w.heap.size ≤ wb ∧ w.heap.size ≤ mb ∧ WorkAt w' wb mb h a b c))

theorem below_of_ext {w W W' : World} {mb : Nat} (h : Below w.heap.size w W) (hE : Ext [mb] W W') (hm : w.heap.size ≤ mb) : Below w.heap.size w W' :=
  h.trans ⟨hE.os, hE.tape, hE.output, hE.size, fun k hk => by
    by_cases hlt : k < W.heap.size
    · exact hE.block k hlt (by simp; omega)
    · have := h.size; omega⟩

theorem asked_any (h : HeapD) (wv tv xv' trv : Value) (turns : List Int) (w : World) (hw : PairsAt w wv h.wet) (ht : IntsAt w tv h.turns) (hx : TriplesAt w xv' h.readings) (htr : IntsAt w trv turns) :
    Calls Try.prog 65 #[hv h wv tv xv', trv] w (AskPost h wv tv xv' turns w) := by
  obtain ⟨ow, cw, rfl⟩ := hw.open
  obtain ⟨ot, ct, rfl⟩ := ht.open
  obtain ⟨ox, cx, rfl⟩ := hx.open
  have HW := Lib.hid hw
  have HT := Lib.hid ht
  have HX := Lib.hid hx
  clear hw ht hx
  obtain ⟨oq, cq, rfl⟩ := htr.open
  have HQ := Lib.hid htr
  clear htr
  by_cases hf0 : fault h = 0
  case neg =>
    have he : askErr h turns = fault h := by unfold askErr; rw [if_pos hf0]
    have HE : Hid (askErr h turns = fault h ∧ askErr h turns ≠ 0) := Lib.hid ⟨he, by rw [he]; exact hf0⟩
    clear he
    generalize hff : fault h = f at *
    have HF := Lib.hid hff
    clear hff
    go_enter Try.func65, Try.ntmps65
    go_wp2_with fail
    refine (check_any h _ _ _ _ (HW.out.alloc _) (HT.out.alloc _) (HX.out.alloc _)).mono ?_
    rintro e w' ⟨rfl, hb⟩
    rw [HF.out]
    go_wp2_with fail
    go_returns
    exact ⟨bgo (bgoAlloc (Below.refl _ _) _) hb, .inl ⟨HE.out.2, by rw [HE.out.1]; simp⟩⟩
  have hS := sound_of hf0
  obtain ⟨hl0, hl9⟩ : 0 ≤ h.last ∧ h.last ≤ 9 := ⟨hS.last0, hS.last9⟩
  have HF := Lib.hid hf0
  have HSS := Lib.hid hS
  clear hf0 hS
  have hask : askErr h turns = if isTurns h.last turns = false then 2 else if (truthsL h []).isEmpty then 11 else 0 := by unfold askErr; rw [if_neg (by rw [HF.out]; simp)]
  have HASK := Lib.hid hask
  clear hask
  generalize htn : isTurns h.last turns = tn at HASK
  have HTN := Lib.hid htn
  clear htn
  go_enter Try.func65, Try.ntmps65
  go_wp2_with fail
  refine (check_any h _ _ _ _ (HW.out.alloc _) (HT.out.alloc _) (HX.out.alloc _)).mono ?_
  rintro e w' ⟨rfl, hb⟩
  rw [HF.out]
  obtain ⟨hc, hf⟩ := bcell hb
  have hz0 : w.heap.size < w'.heap.size := (by have := hb.size; (try simp only [World.size_alloc] at this); omega)
  have HB := Lib.hid (show Below w.heap.size w w' from bgo (bgoAlloc (Below.refl _ _) _) hb)
  clear hb
  go_wp2_with fail
  refine (turnings_any h _ _ _ _ turns _ (HQ.out.below HB.out (Nat.le_refl _)) hl0 hl9).mono ?_
  rintro e w3 ⟨rfl, hb⟩
  rw [HTN.out]
  have HB3 := Lib.hid (bgo HB.out hb)
  obtain ⟨hc3, hf3⟩ := bcell hb
  clear hb
  cases tn
  · go_wp2_with fail
    go_returns
    exact ⟨HB3.out, .inl ⟨by rw [HASK.out]; simp, by rw [HASK.out]; simp⟩⟩
  go_wp2_with fail
  refine (work_any h ow ot ox _ _ _ _ _ _ w3).mono ?_
  rintro e w4 ⟨wb, mb, rfl, h1, h2, h3, h4⟩
  have hsz := HB3.out.size
  have HW4 := Lib.hid h3
  have HB4 := Lib.hid (bgo HB3.out h4)
  clear h3 h4 hc hf hc3 hf3
  go_wp2_with fail
  refine (possible_any h HSS.out _ _ _ (.slice none 0 0) [] wb mb w4 HW4.out (HW.out.below HB4.out (Nat.le_refl _)) (HT.out.below HB4.out (Nat.le_refl _)) (HX.out.below HB4.out (Nat.le_refl _)) (SlAt.nil 1 w4)).mono ?_
  rintro e w5 ⟨rfl, hcc, hE⟩
  have HB5 := Lib.hid (below_of_ext HB4.out hE (by omega))
  have HW5 := Lib.hid (HW4.out.ext hE hcc)
  clear hcc hE
  generalize htl : (truthsL h []).isEmpty = em at HASK
  cases em
  · go_wp2_with fail
    go_returns
    exact ⟨HB5.out, .inr ⟨by rw [HASK.out]; simp, wb, mb, by simp, by omega, by omega, HW5.out⟩⟩
  · go_wp2_with fail
    go_returns
    exact ⟨HB5.out, .inl ⟨by rw [HASK.out]; simp, by rw [HASK.out]; simp⟩⟩

end Go.Proofs.Ytoibfafmnaooaaa

/-
  Contracts of package couch, thirteenth part: what goes through the truths.
-/
import Derived.WalkKit
import Derived.WalkLawsBesides
import Derived.WalkSpells
import Derived.Outline
import Derived.Handy
import Derived.KernelRfl
import Derived.Lib.Hide
import Derived.Test.YtoibfafmnaooaaaW13
namespace Go.Proofs.Ytoibfafmnaooaaa
open Go.RowKit Go.RG Go.SL Go.Shelf Cou
set_option maxHeartbeats 400000
set_option maxRecDepth 10000
attribute [local go_sem] Oper.semAt_some

/-- truths RETURNS ITS ITERATOR: the heap at work and the readings left out are boxed. -/
theorem truths_any (wb : Nat) (o : Option Addr) (n c : Nat) (w : World) :
    Calls Try.prog 90 #[.pointer (some ⟨wb, 0, none⟩), .slice o n c] w (fun e w' => e = .returned (.func (.func 116) #[] #[.pointer (some ⟨w.heap.size, 0, none⟩), .pointer (some ⟨w.heap.size + 1, 0, none⟩)]) ∧
      w' = (w.alloc (.cells #[.pointer (some ⟨wb, 0, none⟩)] 106)).alloc (.cells #[.slice o n c] 25)) := by
  go_enter Try.func90, Try.ntmps90
  go_wp2
  go_returns
  exact ⟨by simp, rfl⟩

/-- A caller's frame: since w nothing old has turned but the table mb; the caller's own blocks Os lie apart from the iterator's blocks Ms. -/
structure Fr (w : World) (mb : Nat) (cool : Int) (Os Ms : List Nat) (W : World) : Prop where
  ext : Ext [mb] w W
  old : ∀ m ∈ Ms, m = mb ∨ w.heap.size ≤ m
  bnd : ∀ m ∈ Ms, m < W.heap.size
  apart : ∀ b ∈ Os, b ∉ Ms ∧ b < W.heap.size
  cache : Cache W mb cool

theorem Fr.step {w : World} {mb : Nat} {cool : Int} {Os Ms Ms' : List Nat} {W1 W2 : World} (h : Fr w mb cool Os Ms W1) (hE : Ext Ms W1 W2) (hMs : ∀ m ∈ Ms', m ∈ Ms ∨ (W1.heap.size ≤ m ∧ m < W2.heap.size)) (hc : Cache W2 mb cool) :
    Fr w mb cool Os Ms' W2 ∧ ∀ b ∈ Os, W2.heap[b]? = W1.heap[b]? := by
  refine ⟨⟨⟨hE.os.trans h.ext.os, hE.tape.trans h.ext.tape, hE.output.trans h.ext.output, Nat.le_trans h.ext.size hE.size, fun k hk hm => ?_⟩, fun m hm => ?_, fun m hm => ?_, fun b hb => ?_, hc⟩, fun b hb => hE.block b (h.apart b hb).2 (h.apart b hb).1⟩
  · refine (hE.block k (Nat.lt_of_lt_of_le hk h.ext.size) (fun hk' => ?_)).trans (h.ext.block k hk hm)
    rcases h.old k hk' with h1 | h1
    · exact hm (by simp [h1])
    · omega
  · rcases hMs m hm with h1 | h1
    · exact h.old m h1
    · exact .inr (Nat.le_trans h.ext.size h1.1)
  · rcases hMs m hm with h1 | h1
    · exact Nat.lt_of_lt_of_le (h.bnd m h1) hE.size
    · exact h1.2
  · refine ⟨fun hb' => ?_, Nat.lt_of_lt_of_le (h.apart b hb).2 hE.size⟩
    rcases hMs b hb' with h1 | h1
    · exact (h.apart b hb).1 h1
    · have := (h.apart b hb).2; omega

/-- The caller's own step: it turns new blocks of its own, and the table. -/
theorem Fr.own {w : World} {mb : Nat} {cool : Int} {Os Ms : List Nat} {W1 W2 : World} (h : Fr w mb cool Os Ms W1) (hE : Ext [mb] w W2) (hs : W1.heap.size ≤ W2.heap.size) (hc : Cache W2 mb cool) : Fr w mb cool Os Ms W2 :=
  ⟨hE, h.old, fun m hm => Nat.lt_of_lt_of_le (h.bnd m hm) hs, fun b hb => ⟨(h.apart b hb).1, Nat.lt_of_lt_of_le (h.apart b hb).2 hs⟩, hc⟩

/-- What the iterator asks, from what lay in w, and from the two boxes. -/
theorem Fr.tinv {w : World} {wb mb bw bo : Nat} {h : HeapD} {a b c ov : Value} {out : List Int} {Os Ms : List Nat} {W : World} (hF : Fr w mb h.cool Os Ms W)
    (hw : WorkAt w wb mb h a b c) (h1 : PairsAt w a h.wet) (h2 : IntsAt w b h.turns) (h3 : TriplesAt w c h.readings) (h4 : IntsAt w ov out)
    (hb1 : W.heap[bw]? = some (.cells #[.pointer (some ⟨wb, 0, none⟩)] 106 (0, 0))) (hb2 : W.heap[bo]? = some (.cells #[ov] 25 (0, 0))) : TInv wb mb bw bo h a b c ov out W := by
  have hm : ∀ x ∈ [mb], ∀ o, w.cell? ⟨x, o, none⟩ = none := fun x hx o => by
    have : x = mb := by simpa using hx
    subst this
    exact hw.cache.noCell o
  exact ⟨hb1, hb2, hw.ext hF.ext hF.cache, h1.ext_other hF.ext hm, h2.ext_other hF.ext hm, h3.ext_other hF.ext hm, h4.ext_other hF.ext hm⟩

theorem Fr.put {w : World} {mb : Nat} {cool : Int} {Os Ms : List Nat} {W : World} (h : Fr w mb cool Os Ms W) {r : Nat} (o : Obj) (hr : w.heap.size ≤ r) (hm : mb < w.heap.size) : Fr w mb cool Os Ms (W.putObj r o) :=
  h.own ⟨h.ext.os, h.ext.tape, h.ext.output, by simpa using h.ext.size, fun k hk hn => (World.putObj_heap_other (by omega)).trans (h.ext.block k hk hn)⟩ (by simp) (h.cache.kept (World.putObj_heap_other (by omega)))

/-- possible's own blocks: the result, the two boxes. -/
structure Pos (w : World) (wb : Nat) (ov : Value) (r : Bool) (W : World) : Prop where
  res : W.heap[w.heap.size]? = some (.cells #[.bool r] 4 (0, 0))
  b1 : W.heap[w.heap.size + 1]? = some (.cells #[.pointer (some ⟨wb, 0, none⟩)] 106 (0, 0))
  b2 : W.heap[w.heap.size + 1 + 1]? = some (.cells #[ov] 25 (0, 0))

theorem Pos.kept {w : World} {wb : Nat} {ov : Value} {r : Bool} {W W' : World} (h : Pos w wb ov r W) (hk : ∀ b ∈ [w.heap.size, w.heap.size + 1, w.heap.size + 1 + 1], W'.heap[b]? = W.heap[b]?) : Pos w wb ov r W' :=
  ⟨(hk _ (by simp)).trans h.res, (hk _ (by simp)).trans h.b1, (hk _ (by simp)).trans h.b2⟩

set_option maxHeartbeats 2000000 in
theorem possible_any (h : HeapD) (hS : Sound h) (a b c ov : Value) (out : List Int) (wb mb : Nat) (w : World) (hw : WorkAt w wb mb h a b c) (h1 : PairsAt w a h.wet) (h2 : IntsAt w b h.turns) (h3 : TriplesAt w c h.readings) (h4 : IntsAt w ov out) :
    Calls Try.prog 72 #[.pointer (some ⟨wb, 0, none⟩), ov] w (fun e w' => e = .returned (.bool (!(truthsL h out).isEmpty)) ∧ Cache w' mb h.cool ∧ Ext [mb] w w') := by
  obtain ⟨oo, co, rfl⟩ := h4.open
  have HW := Lib.hid hw
  have H1 := Lib.hid h1
  have H2 := Lib.hid h2
  have H3 := Lib.hid h3
  have H4 := Lib.hid h4
  have HSS := Lib.hid hS
  have hmb := hw.cache.lt
  clear hw h1 h2 h3 h4 hS
  refine (callsIn_wide (n := 0)).1 ?_
  refine callsIn_of_wp_marks Try.func72 rfl trivial ?_
  simp only [Try.ntmps72, List.size_toArray, List.length_cons, List.length_nil, Nat.reduceAdd, Nat.reduceSub, Array.replicate_succ, Array.replicate_zero, List.push_toArray, List.append_toArray, List.nil_append, List.cons_append]
  gi_wp2_with fail
  refine (callsIn_wide.2 (truths_any wb _ _ _ _)).mono ?_
  rintro e w1 ⟨rfl, rfl⟩
  gi_wp2_with fail
  obtain ⟨w2, hw2⟩ : ∃ w2, (((w.alloc (.cells #[.bool false] 4)).alloc (.cells #[.pointer (some ⟨wb, 0, none⟩)] 106)).alloc (.cells #[.slice oo out.length co] 25)) = w2 := ⟨_, rfl⟩
  have hB2 : Below w.heap.size w w2 := by rw [← hw2]; exact (by repeat (first | exact Below.refl _ _ | assumption | refine bgo ?_ (by assumption) | refine bgoAlloc ?_ _ | refine bgoDrew ?_ | refine bgoSet ?_ (by simp; omega) _))
  have hsz2 : w2.heap.size = w.heap.size + 3 := by rw [← hw2]; simp
  have hP2 : Pos w wb (.slice oo out.length co) false w2 := by
    rw [← hw2]
    exact ⟨(Below.heap_alloc _ _ _ (by simp; omega)).trans ((Below.heap_alloc _ _ _ (by simp)).trans (heap_new0 _ _)), (Below.heap_alloc _ _ _ (by simp)).trans (heap_new1 _ _ _), heap_new2 _ _ _ _⟩
  rw [hw2]
  clear hw2
  refine wpIn_rangeC (truths_seq h HSS.out a b c (.slice oo out.length co) out wb mb (w.heap.size + 1) (w.heap.size + 1 + 1)) rfl (enters_of Try.func116 (by kernel_rfl) rfl) rfl (by simp; omega)
    (fun Ms k W => k = 0 ∧ Fr w mb h.cool [w.heap.size, w.heap.size + 1, w.heap.size + 1 + 1, w2.heap.size, w2.heap.size + 1] Ms W ∧ Pos w wb (.slice oo out.length co) false W)
    (fun cd Ms W => (cd = .ret ∧ (truthsL h out).isEmpty = false) ∧ Fr w mb h.cool [w.heap.size, w.heap.size + 1, w.heap.size + 1 + 1, w2.heap.size, w2.heap.size + 1] Ms W ∧ Pos w wb (.slice oo out.length co) true W)
    ?hInv ?hInvx ?hI ?hIx ?hIp ?hIxp ?h0
    (fun a Ms k W1 a₁ W => ∃ v, a₁ = { tmps := a.tmps.setIfInBounds 8 v, defers := [] } ∧ (Fr w mb h.cool [w.heap.size, w.heap.size + 1, w.heap.size + 1 + 1, w2.heap.size, w2.heap.size + 1] Ms W ∧ Pos w wb (.slice oo out.length co) false W) ∧ (∀ m ∈ Ms, m ∉ [mb] → W.heap[m]? = W1.heap[m]?) ∧ W1.heap.size ≤ W.heap.size)
    ?hMp ?hassign ?hbody ?hdone ?hstop
  case hInv => rintro Ms k W ⟨_, hF, hP⟩; exact hF.tinv HW.out H1.out H2.out H3.out H4.out hP.b1 hP.b2
  case hInvx => rintro cd Ms W ⟨_, hF, hP⟩; exact hF.tinv HW.out H1.out H2.out H3.out H4.out hP.b1 hP.b2
  case hI => rintro Ms Ms' k Wa Wb ⟨h0, hF, hP⟩ hE hMs hc; exact ⟨h0, (hF.step hE hMs hc).1, hP.kept (fun b hb => (hF.step hE hMs hc).2 b (by simp at hb ⊢; omega))⟩
  case hIx => rintro cd Ms Ms' Wa Wb ⟨h0, hF, hP⟩ hE hMs hc; exact ⟨h0, (hF.step hE hMs hc).1, hP.kept (fun b hb => (hF.step hE hMs hc).2 b (by simp at hb ⊢; omega))⟩
  case hIp => rintro Ms k W r o ⟨h0, hF, hP⟩ hr; exact ⟨h0, hF.put o (by omega) hmb, hP.kept (fun b hb => World.putObj_heap_other (by simp at hb; omega))⟩
  case hIxp => rintro cd Ms W r o ⟨h0, hF, hP⟩ hr; exact ⟨h0, hF.put o (by omega) hmb, hP.kept (fun b hb => World.putObj_heap_other (by simp at hb; omega))⟩
  case h0 =>
    intro o o'
    have hB : Below w.heap.size w ((w2.alloc o).alloc o') := bgoAlloc (bgoAlloc hB2 _) _
    exact ⟨rfl, ⟨Ext.of_below hB, fun m hm => .inl (by simpa using hm), fun m hm => (by have := hB.size; simp at hm; omega), fun b hb => ⟨by simp at hb ⊢; omega, by simp at hb ⊢; omega⟩, HW.out.cache.kept (hB.block mb hmb)⟩,
      hP2.kept (fun b hb => (Below.heap_alloc _ _ _ (by simp at hb ⊢; omega)).trans (Below.heap_alloc _ _ _ (by simp at hb; omega)))⟩
  case hMp =>
    rintro Ms k W1 a₁ W o ⟨v, ha, ⟨hF, hP⟩, hk, hs⟩
    refine ⟨v, ha, ⟨hF.put o (by omega) hmb, hP.kept (fun b hb => World.putObj_heap_other (by simp at hb; omega))⟩, fun m hm h0 => ?_, by simpa using hs⟩
    exact (World.putObj_heap_other (fun e : m = w2.heap.size + 1 => (hF.apart (w2.heap.size + 1) (by simp)).1 (by rw [← e]; exact hm))).trans (hk m hm h0)
  case hassign =>
    rintro Ms k v W hk ⟨h0, hF, hP⟩ hE hlt
    gi_wp2
    exact ⟨⟨v, by simp, ⟨hF, hP⟩, fun _ _ _ => trivial, Nat.le_refl _⟩, trivial, trivial⟩
  case hbody =>
    rintro Ms k W1 a₁ W busy hk ⟨v, rfl, ⟨hF, hP⟩, hkeep, hsz⟩ hrec hD
    have hne : (truthsL h out).isEmpty = false := by
      cases hl : truthsL h out with
      | nil => rw [hl] at hk; simp at hk
      | cons x l => rfl
    have hc := cell_of_block0 hP.res
    have hf := frozen_of_block hP.res 0
    have HF := Lib.hid hF
    have HP := Lib.hid hP
    have HQ := Lib.hid (And.intro hrec (And.intro hD (And.intro hkeep hsz)))
    clear hF hP hrec hD hkeep
    simp only [List.setIfInBounds_toArray, List.set_cons_succ, List.set_cons_zero]
    gi_wp2_with fail
    refine ⟨⟨(Below.heap_setCell _ _ _ _ (by show w2.heap.size + 1 ≠ w.heap.size; omega)).trans HQ.out.1, (Below.heap_setCell _ _ _ _ (by show w2.heap.size ≠ w.heap.size; omega)).trans HQ.out.2.1, fun m hm h0 _ => ?_, by simpa [World.setCell] using hsz⟩,
      ⟨rfl, hne⟩, HF.out.own (HF.out.ext.set (Nat.le_refl _) _) (by simp [World.setCell]) (HF.out.cache.kept (Below.heap_setCell _ _ _ _ (by show mb ≠ w.heap.size; omega))),
      ⟨set_block HP.out.res _, (Below.heap_setCell _ _ _ _ (by show w.heap.size + 1 ≠ w.heap.size; omega)).trans HP.out.b1, (Below.heap_setCell _ _ _ _ (by show w.heap.size + 1 + 1 ≠ w.heap.size; omega)).trans HP.out.b2⟩⟩
    exact (Below.heap_setCell _ _ _ _ (fun e : m = w.heap.size => (HF.out.apart w.heap.size (by simp)).1 (by rw [← e]; exact hm))).trans (HQ.out.2.2.1 m hm h0)
  case hdone =>
    rintro Ms W ⟨h0, hF, hP⟩ hD hlt
    have hem : (truthsL h out).isEmpty = true := by
      cases hl : truthsL h out with
      | nil => rfl
      | cons x l => rw [hl] at h0; simp at h0
    rw [hem]
    have hc := cell_of_block0 hP.res
    have hf := frozen_of_block hP.res 0
    have HF := Lib.hid hF
    have HP := Lib.hid hP
    clear hF hP
    gi_wp2_with fail
    rw [hsz2] at hD
    have hD' : (W.setCell ⟨w.heap.size, 0, none⟩ (.bool false)).heap[w.heap.size + 3]? = some (.deferred (some [])) := (Below.heap_setCell _ _ _ _ (by show w.heap.size + 3 ≠ w.heap.size; omega)).trans hD
    have hcell : ((W.setCell ⟨w.heap.size, 0, none⟩ (.bool false)).putObj (w.heap.size + 3) (.deferred none)).cell? ⟨w.heap.size, 0, none⟩ = some (.bool false) :=
      cell_of_block0 ((World.putObj_heap_other (by omega)).trans (set_block HP.out.res _))
    refine ⟨by simp, .inl ⟨_, _, rfl, run_takeDeferred hD', ?_⟩⟩
    refine ⟨.bool false, by simp [results, Try.results72, go_sem, hcell], by rw [hem]; rfl, ?_, ?_⟩
    · exact HF.out.cache.kept ((World.putObj_heap_other (by omega)).trans (Below.heap_setCell _ _ _ _ (by show mb ≠ w.heap.size; omega)))
    · have := (HF.out.own (HF.out.ext.set (p := ⟨w.heap.size, 0, none⟩) (Nat.le_refl _) (.bool false)) (by simp [World.setCell]) (HF.out.cache.kept (Below.heap_setCell _ _ _ _ (by show mb ≠ w.heap.size; omega)))).put (Obj.deferred none) (r := w.heap.size + 3) (by omega) hmb
      exact this.ext
  case hstop =>
    rintro cd Ms W ⟨⟨rfl, hne⟩, hF, hP⟩ hD hlt
    have HF := Lib.hid hF
    have HP := Lib.hid hP
    clear hF hP
    gi_wp2_with fail
    have hcell : (W.putObj (w2.heap.size) (.deferred none)).cell? ⟨w.heap.size, 0, none⟩ = some (.bool true) :=
      cell_of_block0 ((World.putObj_heap_other (by omega)).trans HP.out.res)
    refine ⟨by simp, .inl ⟨_, _, rfl, run_takeDeferred hD, ?_⟩⟩
    refine ⟨.bool true, by simp [results, Try.results72, go_sem, hcell], by rw [hne]; rfl, ?_, ?_⟩
    · exact HF.out.cache.kept (World.putObj_heap_other (by omega))
    · exact (HF.out.put (Obj.deferred none) (r := w2.heap.size) (by omega) hmb).ext

end Go.Proofs.Ytoibfafmnaooaaa

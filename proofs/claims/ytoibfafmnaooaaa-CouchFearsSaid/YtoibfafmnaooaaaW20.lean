/-
  Contracts of package couch, nineteenth part: every.
-/
import Derived.WalkKit
import Derived.WalkLawsBesides
import Derived.WalkSpells
import Derived.Outline
import Derived.Handy
import Derived.KernelRfl
import Derived.Lib.Hide
import Derived.Test.YtoibfafmnaooaaaW19
import Derived.Test.YtoibfafmnaooaaaArr
import Derived.OwnWalkIn
namespace Go.Proofs.Ytoibfafmnaooaaa
open Go.RowKit Go.RG Go.SL Go.Shelf Cou
set_option maxHeartbeats 400000
set_option maxRecDepth 10000
attribute [local go_sem] Oper.semAt_some

theorem tHeats : SliceT Try.prog 130 127 (.agg #[iv 0, iv 0, iv 0, iv 0, iv 0, iv 0, iv 0, iv 0, iv 0, iv 0]) 10 80 := ⟨Try.underlying130, by kernel_rfl, rfl, by omega⟩

theorem one_flat (ls : List (List Int)) : ∀ u ∈ ls.flatMap intCells, u.oneCell' = true := by
  intro u hu
  obtain ⟨x, _, h⟩ := List.mem_flatMap.1 hu
  exact one_ints x u h

/-- every's own blocks: the two boxes, the result, the iterator's two boxes. -/
structure Evr (w : World) (wb : Nat) (tv : Value) (ls : List (List Int)) (Ms : List Nat) (W : World) : Prop where
  b0 : W.heap[w.heap.size]? = some (.cells #[.pointer (some ⟨wb, 0, none⟩)] 106 (0, 0))
  b1 : W.heap[w.heap.size + 1]? = some (.cells #[tv] 25 (0, 0))
  out : ∃ v, W.heap[w.heap.size + 1 + 1]? = some (.cells #[v] 130 (0, 0)) ∧ W.ownsRow (w.heap.size + 7) 127 10 v ls.length (ls.flatMap intCells) ∧ ∀ g, v.ownBlock = some g → g ∉ Ms ∧ g < W.heap.size
  b3 : W.heap[w.heap.size + 1 + 1 + 1]? = some (.cells #[.pointer (some ⟨wb, 0, none⟩)] 106 (0, 0))
  b4 : W.heap[w.heap.size + 1 + 1 + 1 + 1]? = some (.cells #[.slice none 0 0] 25 (0, 0))

theorem owns_keep {w w' : World} {base : Nat} {e : TypeId} {size : Nat} {v : Value} {n : Nat} {xs : List Value} (h : w.ownsRow base e size v n xs) (hk : ∀ g, v.ownBlock = some g → w'.heap[g]? = w.heap[g]?) : w'.ownsRow base e size v n xs := by
  obtain ⟨h1, h2 | ⟨g, c, cs, rfl, hb, hc, h3⟩⟩ := h
  · exact ⟨h1, .inl h2⟩
  · exact ⟨h1, .inr ⟨g, c, cs, rfl, hb, (hk g rfl).trans hc, h3⟩⟩

theorem owns_ge {w : World} {base : Nat} {e : TypeId} {size : Nat} {v : Value} {n : Nat} {xs : List Value} (h : w.ownsRow base e size v n xs) : ∀ g, v.ownBlock = some g → base ≤ g ∧ g < w.heap.size := by
  intro g hg
  obtain ⟨h1, ⟨rfl, rfl⟩ | ⟨g', c, cs, rfl, hb, hc, h3⟩⟩ := h
  · cases hg
  · have : g = g' := by simpa [Value.ownBlock] using hg.symm
    subst this
    exact ⟨hb, (Array.getElem?_eq_some_iff.1 hc).1⟩

theorem Evr.kept {w : World} {wb : Nat} {tv : Value} {ls : List (List Int)} {Ms Ms' : List Nat} {W W' : World} (h : Evr w wb tv ls Ms W) (hs : W.heap.size ≤ W'.heap.size) (hk : ∀ b, w.heap.size ≤ b → b < w.heap.size + 5 → W'.heap[b]? = W.heap[b]?)
    (ho : ∀ g, w.heap.size + 7 ≤ g → g < W.heap.size → g ∉ Ms → W'.heap[g]? = W.heap[g]?) (hM : ∀ m ∈ Ms', m ∈ Ms ∨ (W.heap.size ≤ m ∧ m < W'.heap.size)) : Evr w wb tv ls Ms' W' := by
  obtain ⟨v, h1, h2, h3⟩ := h.out
  refine ⟨(hk _ (by omega) (by omega)).trans h.b0, (hk _ (by omega) (by omega)).trans h.b1, ⟨v, (hk _ (by omega) (by omega)).trans h1, owns_keep h2 fun g hg => ho g (owns_ge h2 g hg).1 (owns_ge h2 g hg).2 (h3 g hg).1, fun g hg => ⟨fun hm => ?_, by have := (h3 g hg).2; omega⟩⟩,
    (hk _ (by omega) (by omega)).trans h.b3, (hk _ (by omega) (by omega)).trans h.b4⟩
  rcases hM g hm with h4 | h4
  · exact (h3 g hg).1 h4
  · have := (h3 g hg).2; omega

/-- What every leaves behind. -/
def EvPost (ls : List (List Int)) (mb : Nat) (cool : Int) (w : World) (e : Ending) (w' : World) : Prop :=
  ∃ v, e = .returned v ∧ w'.ownsRow w.heap.size 127 10 v ls.length (ls.flatMap intCells) ∧ Cache w' mb cool ∧ Ext [mb] w w'

theorem truth_bd {h : HeapD} (hS : Sound h) {out : List Int} {t : Int × List Int} (ht : t ∈ truthsL h out) : t.2.length = h.wet.length ∧ (0 ≤ t.1 ∧ t.1 ≤ 500) ∧ ∀ x ∈ t.2, 0 ≤ x ∧ x ≤ 20 := by
  unfold truthsL at ht
  obtain ⟨x, hx, rfl⟩ := List.mem_map.1 ht
  obtain ⟨s, rest, rfl, h1, h2, h3⟩ := list_split hS (List.mem_filter.1 hx).1
  exact ⟨h1, h2, h3⟩

/-- The world behind one more element. -/
theorem ev_push {w W7 W8 W9 : World} {wb mb : Nat} {cool : Int} {tv v v' : Value} {ls : List (List Int)} {ys : List Int} {Os Ms : List Nat} {obj : Obj} (hF : Fr w mb cool Os Ms W7) (hP : Evr w wb tv ls Ms W7)
    (hv1 : W7.heap[w.heap.size + 1 + 1]? = some (.cells #[v] 130 (0, 0))) (hv3 : ∀ g, v.ownBlock = some g → (w.heap.size + 7 ≤ g ∧ g < W7.heap.size) ∧ g ∉ Ms)
    (hE : Ext [] W7 W8) (hG : (W8.alloc obj).grownBy W9 v.ownBlock) (hN : v'.ownBlock = v.ownBlock ∨ v'.ownBlock = some (W8.heap.size + 1)) (hO : W9.ownsRow (w.heap.size + 7) 127 10 v' (ls.length + 1) (ls.flatMap intCells ++ intCells ys))
    (hmb : mb < w.heap.size) (hs : w.heap.size + 7 ≤ W7.heap.size) :
    (Fr w mb cool Os Ms (W9.setCell ⟨w.heap.size + 1 + 1, 0, none⟩ v') ∧ Evr w wb tv (ls ++ [ys]) Ms (W9.setCell ⟨w.heap.size + 1 + 1, 0, none⟩ v')) ∧
      (∀ b, b < W7.heap.size → v.ownBlock ≠ some b → b ≠ w.heap.size + 2 → (W9.setCell ⟨w.heap.size + 1 + 1, 0, none⟩ v').heap[b]? = W7.heap[b]?) ∧ W7.heap.size ≤ (W9.setCell ⟨w.heap.size + 1 + 1, 0, none⟩ v').heap.size := by
  have h1 := hE.size
  have h2 := hG.size
  simp only [World.size_alloc] at h2
  have hk : ∀ b, b < W7.heap.size → v.ownBlock ≠ some b → W9.heap[b]? = W7.heap[b]? := fun b hb hn =>
    (hG.block b (by simp; omega) (fun e => hn e.symm)).trans ((Below.heap_alloc _ _ _ (by omega)).trans (hE.block b hb (by simp)))
  have hks : ∀ b, b < W7.heap.size → v.ownBlock ≠ some b → b ≠ w.heap.size + 2 → (W9.setCell ⟨w.heap.size + 1 + 1, 0, none⟩ v').heap[b]? = W7.heap[b]? := fun b hb hn hne =>
    (Below.heap_setCell _ _ _ _ (by show b ≠ w.heap.size + 1 + 1; omega)).trans (hk b hb hn)
  have hlow : ∀ b, b < w.heap.size + 7 → v.ownBlock ≠ some b := fun b hb e => by have := (hv3 b e).1.1; omega
  have hsz : W7.heap.size ≤ (W9.setCell ⟨w.heap.size + 1 + 1, 0, none⟩ v').heap.size := by simp [World.setCell]; omega
  refine ⟨⟨hF.own ⟨hG.os.trans (hE.os.trans hF.ext.os), hG.tape.trans (hE.tape.trans hF.ext.tape), hG.output.trans (hE.output.trans hF.ext.output), by have := hF.ext.size; omega, fun k hk' hm => (hks k (by omega) (hlow k (by omega)) (by omega)).trans (hF.ext.block k hk' hm)⟩ hsz (hF.cache.kept (hks mb (by omega) (hlow mb (by omega)) (by omega))), ?_⟩, hks, hsz⟩
  have hb := owns_ge hO
  refine ⟨(hks _ (by omega) (hlow _ (by omega)) (by omega)).trans hP.b0, (hks _ (by omega) (hlow _ (by omega)) (by omega)).trans hP.b1, ⟨v', ?_, ?_, fun g hg => ⟨fun hm => ?_, by have := (hb g hg).2; simpa [World.setCell] using this⟩⟩, (hks _ (by omega) (hlow _ (by omega)) (by omega)).trans hP.b3, (hks _ (by omega) (hlow _ (by omega)) (by omega)).trans hP.b4⟩
  · exact set_block ((hk _ (by omega) (hlow _ (by omega))).trans hv1) _
  · rw [List.length_append, List.flatMap_append]
    have : [ys].flatMap intCells = intCells ys := by simp
    rw [this]
    exact owns_keep hO fun g hg => Below.heap_setCell _ _ _ _ (by have := (hb g hg).1; show g ≠ w.heap.size + 1 + 1; omega)
  · rcases hN with hN | hN
    · exact (hv3 g (by rw [← hN, hg])).2 hm
    · rw [hg] at hN
      injection hN with hN
      have := hF.bnd g hm
      omega

set_option maxHeartbeats 4000000 in
theorem every_any (h : HeapD) (hS : Sound h) (a b c tv : Value) (turns : List Int) (wb mb : Nat) (w : World) (hw : WorkAt w wb mb h a b c) (h1 : PairsAt w a h.wet) (h2 : IntsAt w b h.turns) (h3 : TriplesAt w c h.readings) (h4 : IntsAt w tv turns) :
    Calls Try.prog 83 #[.pointer (some ⟨wb, 0, none⟩), tv] w (EvPost (everyL h turns) mb h.cool w) := by
  obtain ⟨ot, ct, rfl⟩ := h4.open
  have HW := Lib.hid hw
  have H1 := Lib.hid h1
  have H2 := Lib.hid h2
  have H3 := Lib.hid h3
  have H4 := Lib.hid h4
  have HSS := Lib.hid hS
  have hmb := hw.cache.lt
  clear hw h1 h2 h3 h4 hS
  refine (callsIn_wide (n := 0)).1 ?_
  refine callsIn_of_wp_marks Try.func83 rfl trivial ?_
  simp only [Try.ntmps83, List.size_toArray, List.length_cons, List.length_nil, Nat.reduceAdd, Nat.reduceSub, Array.replicate_succ, Array.replicate_zero, List.push_toArray, List.append_toArray, List.nil_append, List.cons_append]
  gi_wp2_with fail
  refine (callsIn_wide.2 (truths_any wb _ _ _ _)).mono ?_
  rintro e w1 ⟨rfl, rfl⟩
  gi_wp2_with fail
  obtain ⟨w2, hw2⟩ : ∃ w2, (((((w.alloc (.cells #[.pointer (some ⟨wb, 0, none⟩)] 106)).alloc (.cells #[.slice ot turns.length ct] 25)).alloc (.cells #[.slice none 0 0] 130)).alloc (.cells #[.pointer (some ⟨wb, 0, none⟩)] 106)).alloc (.cells #[.slice none 0 0] 25)) = w2 := ⟨_, rfl⟩
  have hB2 : Below w.heap.size w w2 := by rw [← hw2]; exact (by repeat (first | exact Below.refl _ _ | assumption | refine bgo ?_ (by assumption) | refine bgoAlloc ?_ _ | refine bgoDrew ?_ | refine bgoSet ?_ (by simp; omega) _))
  have hsz2 : w2.heap.size = w.heap.size + 5 := by rw [← hw2]; simp
  have hP2 : Evr w wb (.slice ot turns.length ct) [] [mb] w2 := by
    rw [← hw2]
    have n3 := heap_new0 (((w.alloc (.cells #[.pointer (some ⟨wb, 0, none⟩)] 106)).alloc (.cells #[.slice ot turns.length ct] 25)).alloc (.cells #[.slice none 0 0] 130)) (.cells #[.pointer (some ⟨wb, 0, none⟩)] 106)
    have n4 := heap_new1 (((w.alloc (.cells #[.pointer (some ⟨wb, 0, none⟩)] 106)).alloc (.cells #[.slice ot turns.length ct] 25)).alloc (.cells #[.slice none 0 0] 130)) (.cells #[.pointer (some ⟨wb, 0, none⟩)] 106) (.cells #[.slice none 0 0] 25)
    simp only [World.size_alloc] at n3 n4
    refine ⟨?_, ?_, ⟨.slice none 0 0, ?_, ⟨rfl, .inl ⟨rfl, rfl⟩⟩, fun g hg => by cases hg⟩, ?_, n4⟩
    · exact (Below.heap_alloc _ _ _ (by first | omega | (simp; done) | (simp; omega))).trans ((Below.heap_alloc _ _ _ (by first | omega | (simp; done) | (simp; omega))).trans ((Below.heap_alloc _ _ _ (by first | omega | (simp; done) | (simp; omega))).trans ((Below.heap_alloc _ _ _ (by first | omega | (simp; done) | (simp; omega))).trans (heap_new0 _ _))))
    · exact (Below.heap_alloc _ _ _ (by first | omega | (simp; done) | (simp; omega))).trans ((Below.heap_alloc _ _ _ (by first | omega | (simp; done) | (simp; omega))).trans ((Below.heap_alloc _ _ _ (by first | omega | (simp; done) | (simp; omega))).trans (heap_new1 _ _ _)))
    · exact (Below.heap_alloc _ _ _ (by first | omega | (simp; done) | (simp; omega))).trans ((Below.heap_alloc _ _ _ (by first | omega | (simp; done) | (simp; omega))).trans (heap_new2 _ _ _ _))
    · exact (Below.heap_alloc _ _ _ (by first | omega | (simp; done) | (simp; omega))).trans n3
  rw [hw2]
  clear hw2
  refine wpIn_rangeC (truths_seq h HSS.out a b c (.slice none 0 0) [] wb mb (w.heap.size + 1 + 1 + 1) (w.heap.size + 1 + 1 + 1 + 1)) rfl (enters_of Try.func116 (by kernel_rfl) rfl) rfl (by simp; omega)
    (fun Ms k W => Fr w mb h.cool [w.heap.size, w.heap.size + 1, w.heap.size + 2, w.heap.size + 3, w.heap.size + 4, w.heap.size + 5, w.heap.size + 6] Ms W ∧ Evr w wb (.slice ot turns.length ct) (everyTo h turns k) Ms W)
    (fun _ _ _ => False)
    ?hInv ?hInvx ?hI ?hIx ?hIp ?hIxp ?h0
    (fun a Ms k W1 a₁ W => ∃ (t : Int × List Int) (ob bt : Nat), (truthsL h [])[k]? = some t ∧ a₁ = { tmps := (a.tmps.setIfInBounds 9 (.agg #[iv t.1, .slice (some ⟨ob, 1, none⟩) t.2.length t.2.length])).setIfInBounds 5 (.pointer (some ⟨bt, 0, none⟩)), defers := [] } ∧
      (Fr w mb h.cool [w.heap.size, w.heap.size + 1, w.heap.size + 2, w.heap.size + 3, w.heap.size + 4, w.heap.size + 5, w.heap.size + 6] Ms W ∧ Evr w wb (.slice ot turns.length ct) (everyTo h turns k) Ms W) ∧
      (W.heap[bt]? = some (.cells #[iv t.1, .slice (some ⟨ob, 1, none⟩) t.2.length t.2.length] 71 (0, 0)) ∧ (w.heap.size + 7 ≤ bt ∧ ob ∈ Ms ∧ ob ≠ mb) ∧ IntsAt W (.slice (some ⟨ob, 1, none⟩) t.2.length t.2.length) t.2) ∧ (∀ m ∈ Ms, m ∉ [mb] → m < W1.heap.size → W.heap[m]? = W1.heap[m]?) ∧ W1.heap.size ≤ W.heap.size)
    ?hMp ?hassign ?hbody ?hdone ?hstop
  case hInv => rintro Ms k W ⟨hF, hP⟩; exact hF.tinv HW.out H1.out H2.out H3.out (ints_nil w) hP.b3 hP.b4
  case hInvx => rintro cd Ms W h; exact h.elim
  case hI =>
    rintro Ms Ms' k Wa Wb ⟨hF, hP⟩ hE hMs hc
    refine ⟨(hF.step hE hMs hc).1, hP.kept hE.size (fun b h1 h2 => (hF.step hE hMs hc).2 b (by simp; omega)) (fun g h1 h2 h3 => hE.block g h2 h3) hMs⟩
  case hIx => rintro cd Ms Ms' Wa Wb h; exact h.elim
  case hIp =>
    rintro Ms k W r o ⟨hF, hP⟩ hr
    exact ⟨hF.put o (by omega) hmb, hP.kept (by simp) (fun b h1 h2 => World.putObj_heap_other (by omega)) (fun g h1 h2 h3 => World.putObj_heap_other (by omega)) (fun m hm => .inl hm)⟩
  case hIxp => rintro cd Ms W r o h; exact h.elim
  case h0 =>
    intro o o'
    have hB : Below w.heap.size w ((w2.alloc o).alloc o') := bgoAlloc (bgoAlloc hB2 _) _
    refine ⟨⟨Ext.of_below hB, fun m hm => .inl (by simpa using hm), fun m hm => (by have := hB.size; simp at hm; omega), fun b hb => ⟨by simp at hb ⊢; omega, by simp at hb ⊢; omega⟩, HW.out.cache.kept (hB.block mb hmb)⟩,
      hP2.kept (by simp; omega) (fun b h1 h2 => (Below.heap_alloc _ _ _ (by simp; omega)).trans (Below.heap_alloc _ _ _ (by omega))) (fun g h1 h2 h3 => by omega) (fun m hm => .inl hm)⟩
  case hMp =>
    rintro Ms k W1 a₁ W o ⟨t, ob, bt, ht, ha, ⟨hF, hP⟩, ⟨hbt, ⟨hb7, hob, hne⟩, hsl⟩, hk, hs⟩
    have hap := (hF.apart (w.heap.size + 6) (by simp)).1
    refine ⟨t, ob, bt, ht, ha, ⟨hF.put o (by omega) hmb, hP.kept (by simp) (fun b h1 h2 => World.putObj_heap_other (by omega)) (fun g h1 h2 h3 => World.putObj_heap_other (by omega)) (fun m hm => .inl hm)⟩,
      ⟨(World.putObj_heap_other (by omega)).trans hbt, ⟨hb7, hob, hne⟩, hsl.kept fun b off n c hv _ => by cases hv; exact World.putObj_heap_other (fun e => hap (by rw [show w.heap.size + 6 = ob by omega]; exact hob))⟩,
      fun m hm h0 hml => (World.putObj_heap_other (fun e => hap (by rw [show w.heap.size + 6 = m by omega]; exact hm))).trans (hk m hm h0 hml), by simpa using hs⟩
  case hassign =>
    rintro Ms k v W hk ⟨hF, hP⟩ ⟨ob, rfl, hsl, hob, hne⟩ hlt
    generalize ht : (truthsL h [])[k] = t at *
    have htk : (truthsL h [])[k]? = some t := by rw [List.getElem?_eq_getElem hk, ht]
    gi_wp2
    have hB : Below W.heap.size W (W.alloc (.cells #[iv t.1, .slice (some ⟨ob, 1, none⟩) t.2.length t.2.length] 71)) := bgoAlloc (Below.refl _ _) _
    have hc := hF.cache.kept (hB.block mb hF.cache.lt)
    exact ⟨⟨t, ob, W.heap.size, htk, rfl, ⟨(hF.step (Ext.of_below hB) (fun m hm => .inl hm) hc).1, hP.kept (by simp) (fun b h1 h2 => Below.heap_alloc _ _ _ (by omega)) (fun g h1 h2 h3 => Below.heap_alloc _ _ _ (by omega)) (fun m hm => .inl hm)⟩,
      ⟨heap_new0 _ _, ⟨by omega, hob, hne⟩, hsl.alloc _⟩, fun m hm h0 hml => Below.heap_alloc _ _ _ (by omega), by simp⟩, Below.heap_alloc _ _ _ (by omega), Below.heap_alloc _ _ _ (by omega)⟩
  case hbody =>
    rintro Ms k W1 a₁ W busy hk ⟨t, ob, bt, ht, rfl, ⟨hF, hP⟩, ⟨hbt, ⟨hb7, hob, hne⟩, hsl⟩, hkeep, hsz⟩ hrec hD
    simp only [List.setIfInBounds_toArray, List.set_cons_succ, List.set_cons_zero]
    have htm : t ∈ truthsL h [] := List.mem_of_getElem? ht
    obtain ⟨hl2, hs0, hrest⟩ := truth_bd HSS.out htm
    have hlast := HSS.out.last9
    have hwl := HSS.out.wetLen
    have c0 := cell_of_block0 hP.b0
    have c1 := cell_of_block0 hP.b1
    have k0 := World.block_lt_of_cell? W _ c0
    have k1 := World.block_lt_of_cell? W _ c1
    have kt := (Array.getElem?_eq_some_iff.1 hbt).1
    have hg : ∀ i, W.cell? ⟨bt, i, none⟩ = (#[iv t.1, .slice (some ⟨ob, 1, none⟩) t.2.length t.2.length] : Array Value)[i]? := fun i => by
      simp only [World.cell?, hbt]; rfl
    have hwork : WorkAt W wb mb h a b c := HW.out.ext hF.ext hF.cache
    have htv : IntsAt W (.slice ot turns.length ct) turns := H4.out.ext_other hF.ext (fun x hx o => by
      obtain rfl : x = mb := by simpa using hx
      exact HW.out.cache.noCell o)
    have hmbW := hF.cache.lt
    have HPL := Lib.hid (play_any h a b c wb mb t.1 t.2 turns _ _ W hwork hsl htv (by omega) HSS.out.size0 HSS.out.size1 HSS.out.cool0 HSS.out.cool1 hs0.1 hs0.2 hrest)
    obtain ⟨ys, hy⟩ : ∃ ys, heats h (t.1, t.2) turns = ys := ⟨_, rfl⟩
    have hy10 : ys.length = 10 := by rw [← hy]; exact heatsTo_length _ _ _ _ _ _
    rw [hy] at HPL
    have HY := Lib.hid hy
    have HT := Lib.hid (And.intro ht hk)
    have HF := Lib.hid hF
    have HP := Lib.hid hP
    have HK := Lib.hid (And.intro hkeep (And.intro hrec hD))
    have HTV := Lib.hid htv
    clear hF hP hkeep hrec hD hbt hsl htv hwork hy ht hrest htm
    rw [hl2] at HPL
    gi_wp2_with fail
    refine (CallsIn.inRound _ (callsIn_wide.2 HPL.out)).mono ?_
    rintro e W6 ⟨rfl, hcc, hE⟩
    have hyl : (intCells ys).length = 10 := by simp [intCells, hy10]
    simp only [aggI]
    obtain ⟨W7, hst, hblk, hE7⟩ := store_block Try.prog ys (heap_new0 W6 (.cells #[iv 0, iv 0, iv 0, iv 0, iv 0, iv 0, iv 0, iv 0, iv 0, iv 0] 127)) (by rw [hy10]; rfl)
    have hE' : Ext [mb] W W7 := ext_newer (hE.alloc _) hE7 hE.size
    have hcc7 : Cache W7 mb h.cool := hcc.kept ((hE7.block mb (by have := hcc.lt; first | (simp; done) | (simp; omega)) (by have := hcc.lt; first | (simp; done) | (simp; omega))).trans (Below.heap_alloc _ _ _ hcc.lt))
    have hF7 := HF.out.own (HF.out.ext.trans hE') hE'.size hcc7
    have hap := HF.out.apart
    have hP7 : Evr w wb (.slice ot turns.length ct) (everyTo h turns k) Ms W7 := HP.out.kept hE'.size (fun b h1 h2 => hE'.block b (hap b (by first | omega | (simp; done) | (simp; omega))).2 (by first | omega | (simp; done) | (simp; omega))) (fun g h1 h2 h3 => hE'.block g h2 (by first | omega | (simp; done) | (simp; omega))) (fun m hm => .inl hm)
    have hkp : ∀ m ∈ Ms, m ∉ [mb] → m < W1.heap.size → W7.heap[m]? = W1.heap[m]? := fun m hm h0 hml => (hE'.block m (by omega) h0).trans (HK.out.1 m hm h0 hml)
    have hrec := (hE'.block _ (hap (w.heap.size + 6) (by simp)).2 (by first | omega | (simp; done) | (simp; omega))).trans (show W.heap[w.heap.size + 6]? = some (.loop busy) from by rw [show w.heap.size + 6 = w2.heap.size + 1 by omega]; exact HK.out.2.1)
    have hD := (hE'.block _ (hap (w.heap.size + 5) (by simp)).2 (by first | omega | (simp; done) | (simp; omega))).trans (show W.heap[w.heap.size + 5]? = some (.deferred (some [])) from by rw [← hsz2]; exact HK.out.2.2)
    have hs7 : W1.heap.size ≤ W7.heap.size := by have := hE'.size; omega
    have hw7 : w.heap.size + 7 ≤ W7.heap.size := by have := hE'.size; omega
    obtain ⟨v, hv1, hv2, hv3⟩ := hP7.out
    obtain ⟨vo, vc, rfl⟩ := owns_slice hv2
    have d1 := cell_of_block0 hv1
    have d2 := frozen_of_block hv1 0
    have d3 := World.block_lt_of_cell? W7 _ d1
    have d4 := (Array.getElem?_eq_some_iff.1 hblk).1
    have hln : (everyTo h turns k).length ≤ 2000 := by have := everyTo_len h turns k; have := truthsL_len HSS.out []; have := HT.out.2; omega
    have hten := everyTo_ten (h := h) (turns := turns) (k := k)
    have hsucc : everyTo h turns (k + 1) = snocD (everyTo h turns k) ys := by
      rw [everyTo_succ HT.out.2, ← HY.out]
      have := HT.out.1
      rw [List.getElem?_eq_getElem HT.out.2] at this
      injection this with this
      rw [this]
    have HSU := Lib.hid hsucc
    have HF7 := Lib.hid hF7
    have HP7 := Lib.hid hP7
    have HK7 := Lib.hid (And.intro hkp (And.intro hrec (And.intro hD hs7)))
    have HV := Lib.hid (And.intro hv1 (And.intro hv2 hv3))
    have HB := Lib.hid hblk
    have HTEN := Lib.hid hten
    generalize everyTo h turns k = ls at *
    clear hF7 hP7 hkp hrec hD hap hv1 hv2 hv3 hblk hE7 hE' hcc7 hE hcc hten hsucc hg c0 c1
    gi_wp2_with fail
    rcases (List.eq_nil_or_concat ls).imp id (fun ⟨A, z, e⟩ => (⟨A, z, e.trans (List.concat_eq_append)⟩ : ∃ A z, ls = A ++ [z])) with rfl | ⟨A, z, rfl⟩
    · simp only [List.length_nil] at d1 HV
      refine wpIn_region_rgR 13 [] none [] (by kernel_rfl) (by kernel_rfl) (by kernel_rfl) ?_
      simp only [List.take_succ_cons, List.take_zero, List.drop_succ_cons, List.drop_zero]
      repeat (first | (refine tree_det (by rfl) _ (by rfl) (fun W hW => by go_simp; (try simp (disch := omega) only [IntWalk.i64_in, Int.tdiv_eq_ediv_of_nonneg]); try rfl) ?_; simp only [Act.put, List.setIfInBounds_toArray, List.set_cons_succ, List.set_cons_zero]) | (refine tree_skip (by rfl) (by rfl) ?_; simp only [Act.put, List.setIfInBounds_toArray, List.set_cons_succ, List.set_cons_zero]))
      have HDD : Hid (snocD [] ys = [] ++ [ys]) := Lib.hid (by simp [snocD])
      intro W8 hE8 hF8
      have hE : Ext [] W7 W8 := hE8
      obtain ⟨hc, hf⟩ := bcell hE.below
      have hz8 := hE.size
      have hb8 := HB.out
      obtain ⟨y0, y1, y2, y3, y4, y5, y6, y7, y8, y9, hys⟩ := ten_of hy10
      rw [hys] at hb8
      have hg8 : ∀ i, W7.cell? ⟨W6.heap.size, i, none⟩ = (#[iv y0, iv y1, iv y2, iv y3, iv y4, iv y5, iv y6, iv y7, iv y8, iv y9] : Array Value)[i]? := fun i => by
        simp only [World.cell?, hb8]; rfl
      have hz9 : W6.heap.size < W8.heap.size := by omega
      have hown8 := owns_ext (Ms := []) HV.out.2.1 hE (by simp)
      have HE8 := Lib.hid hE
      have HOW := Lib.hid hown8
      have HYS := Lib.hid hys
      clear hE hE8 hF8 hb8 hown8 hys
      gi_wp2_with (gi_at_builtin; go_loud (refine wpListIn_append (fun _ => trivial) rfl calls_round rfl _ _ tHeats rfl (w.heap.size + 7) (.slice vo 0 vc) 0 (List.flatMap intCells []) rfl ?_ (.slice (some ⟨W8.heap.size, 0, none⟩) 1 1) 1 (intCells [y0, y1, y2, y3, y4, y5, y6, y7, y8, y9]) rfl ?_ (one_ints _) (by omega) (by omega) (by simp; omega) ?_))
      · refine owns_ext (Ms := []) (w := W8) ?_ (Ext.of_below ((Below.refl _ _).alloc (Nat.le_refl _) _)) (by simp)
        simpa using HOW.out
      · exact SlAt.of_block 10 1 (heap_new0 _ _) rfl (by decide)
      · intro v' W9 hown hgr hown'
        obtain ⟨o9, c9, rfl⟩ := owns_slice hown
        have HO9 := Lib.hid hown
        have HG9 := Lib.hid hgr
        have HN9 := Lib.hid hown'
        have hg7 := owns_ge HV.out.2.1
        have hkeep9 : ∀ b, b < w.heap.size + 7 → b < W7.heap.size → W9.heap[b]? = W7.heap[b]? := fun b hb hb7 => by
          refine (hgr.block b (by simp; omega) (fun e => ?_)).trans ((Below.heap_alloc _ _ _ (by omega)).trans (HE8.out.block b hb7 (by simp)))
          have := hg7 b e.symm
          omega
        have hc9 := hc
        have hz10 : W8.heap.size < W9.heap.size := by have := hgr.size; simp at this; omega
        have e1 : W9.cell? ⟨w.heap.size + 1 + 1, 0, none⟩ = some (.slice vo 0 vc) := cell_of_block0 ((hkeep9 _ (by omega) d3).trans HV.out.1)
        have e2 : W9.frozen? ⟨w.heap.size + 1 + 1, 0, none⟩ = false := frozen_of_block ((hkeep9 _ (by omega) d3).trans HV.out.1) 0
        have e3 := World.block_lt_of_cell? W9 _ e1
        have HK9 := Lib.hid hkeep9
        clear hown hgr hown' hkeep9 hc9 hg8 hc hf hg7
        gi_wp2_with fail
        rw [HYS.out] at HDD
        obtain ⟨⟨hF9, hP9⟩, hks, hsz9⟩ := ev_push (ls := []) (ys := [y0, y1, y2, y3, y4, y5, y6, y7, y8, y9]) HF7.out HP7.out HV.out.1 (fun g hg => ⟨owns_ge HV.out.2.1 g hg, (HV.out.2.2 g hg).1⟩) HE8.out HG9.out HN9.out (by simpa using HO9.out) hmb hw7
        have hg7 := owns_ge HV.out.2.1
        have hap := HF7.out.apart
        refine ⟨⟨?_, ?_, fun m hm h0 hml => ?_, by have := HK7.out.2.2.2; omega⟩, hF9, ?_⟩
        · exact (hks _ (by omega) (fun e => by have := hg7 _ e; omega) (by omega)).trans HK7.out.2.1
        · exact (hks _ (by omega) (fun e => by have := hg7 _ e; omega) (by omega)).trans HK7.out.2.2.1
        · exact (hks m (by have := HK7.out.2.2.2; omega) (fun e => (HV.out.2.2 m e).1 hm) (fun e => (hap (w.heap.size + 2) (by simp)).1 (by rw [← e]; exact hm))).trans (HK7.out.1 m hm h0 hml)
        · rw [HSU.out, HYS.out]
          exact HDD.out ▸ hP9
    · have hz10 := HTEN.out z (by simp)
      obtain ⟨gb, gc, hvv, hgb, hglt, hrng⟩ := owns_last (A := A) (z := z) (by simpa using HV.out.2.1) (fun x hx => HTEN.out x (by simp [hx])) hz10
      have hcap : vo = some ⟨gb, 0, none⟩ := by simp at hvv; exact hvv.1
      subst hcap
      have hzl : (intCells z).length = 10 := by simp [intCells, hz10]
      have hyr := range_of_block HB.out
      (try simp only [List.length_append, List.length_cons, List.length_nil, Nat.zero_add] at d1)
      (try simp only [List.length_append, List.length_cons, List.length_nil, Nat.zero_add] at HV)
      (try simp only [List.length_append, List.length_cons, List.length_nil, Nat.zero_add] at hln)
      have hAI : ((A.length : Int) + 1 == 0) = false := by simp; omega
      have hA0 : ¬ ((A.length : Int) + 1 = 0) := by omega
      have hA1 : ((A.length : Int) + 1).toNat = A.length + 1 := by omega
      have hAm : (A.length : Int) + 1 - 1 = A.length := by omega
      rcases hq : (z == ys) with _ | _
      · have HDD : Hid (snocD (A ++ [z]) ys = (A ++ [z]) ++ [ys]) := Lib.hid (by
          unfold snocD
          rw [if_neg]
          simp only [List.getLast?_append, List.getLast?_singleton]
          intro e
          simp at e
          subst e; simp at hq)
        refine wpIn_region_rgR 13 [] none [] (by kernel_rfl) (by kernel_rfl) (by kernel_rfl) ?_
        simp only [List.take_succ_cons, List.take_zero, List.drop_succ_cons, List.drop_zero]
        repeat (first | (refine tree_det (by rfl) _ (by rfl) (fun W hW => by go_simp; (try simp (disch := omega) only [IntWalk.i64_in]); try rfl) ?_; simp only [Act.put, List.setIfInBounds_toArray, List.set_cons_succ, List.set_cons_zero]) | (refine tree_skip (by rfl) (by rfl) ?_; simp only [Act.put, List.setIfInBounds_toArray, List.set_cons_succ, List.set_cons_zero]))
        refine tree_det (by rfl) (.pointer (some ⟨gb, A.length * 10, none⟩)) (by rfl) (fun W hW => by go_simp; (try simp (disch := omega) only [IntWalk.i64_in]); (try rw [if_pos (by omega)]); (try simp); (try (intro hx; exfalso; omega))) ?_
        simp only [Act.put, List.setIfInBounds_toArray, List.set_cons_succ, List.set_cons_zero]
        refine tree_det (by rfl) (.agg (intCells z).toArray) (by rfl) (fun W hW => exec_load_mid 127 _ (by rfl) gb (A.length * 10) (by rfl) (intCells z) _ (fun j u hj => (hW gb _ hglt (by simp)).trans (hrng j u hj)) Try.underlying127 rfl (by rw [hzl]; kernel_rfl)) ?_
        simp only [Act.put, List.setIfInBounds_toArray, List.set_cons_succ, List.set_cons_zero]
        refine tree_det (by rfl) (.agg (intCells ys).toArray) (by rfl) (fun W hW => exec_load_mid 127 _ (by rfl) W6.heap.size 0 (by rfl) (intCells ys) _ (fun j u hj => (hW W6.heap.size _ d4 (by simp)).trans (hyr j u hj)) Try.underlying127 rfl (by rw [hyl]; kernel_rfl)) ?_
        simp only [Act.put, List.setIfInBounds_toArray, List.set_cons_succ, List.set_cons_zero]
        refine tree_det (by rfl) (.bool true) (by rfl) (fun W hW => (exec_neq_ints 127 3 _ 10 _ _ (by rfl) Try.underlying127 Try.underlying3 (by intro w; go_simp) (by kernel_rfl) z ys (by rfl) (by rfl) hz10 hy10).trans (by rw [hq]; rfl)) ?_
        simp only [Act.put, List.setIfInBounds_toArray, List.set_cons_succ, List.set_cons_zero]
        repeat (first | (refine tree_det (by rfl) _ (by rfl) (fun W hW => by go_simp; (try simp (disch := omega) only [IntWalk.i64_in, Int.tdiv_eq_ediv_of_nonneg]); try rfl) ?_; simp only [Act.put, List.setIfInBounds_toArray, List.set_cons_succ, List.set_cons_zero]) | (refine tree_skip (by rfl) (by rfl) ?_; simp only [Act.put, List.setIfInBounds_toArray, List.set_cons_succ, List.set_cons_zero]))
        intro W8 hE8 hF8
        have hE : Ext [] W7 W8 := hE8
        obtain ⟨hc, hf⟩ := bcell hE.below
        have hz8 := hE.size
        have hb8 := HB.out
        obtain ⟨y0, y1, y2, y3, y4, y5, y6, y7, y8, y9, hys⟩ := ten_of hy10
        rw [hys] at hb8
        have hg8 : ∀ i, W7.cell? ⟨W6.heap.size, i, none⟩ = (#[iv y0, iv y1, iv y2, iv y3, iv y4, iv y5, iv y6, iv y7, iv y8, iv y9] : Array Value)[i]? := fun i => by
          simp only [World.cell?, hb8]; rfl
        have hz9 : W6.heap.size < W8.heap.size := by omega
        have hown8 := owns_ext (Ms := []) HV.out.2.1 hE (by simp)
        have HE8 := Lib.hid hE
        have HOW := Lib.hid hown8
        have HYS := Lib.hid hys
        clear hE hE8 hF8 hb8 hown8 hys
        gi_wp2_with (gi_at_builtin; go_loud (refine wpListIn_append (fun _ => trivial) rfl calls_round rfl _ _ tHeats rfl (w.heap.size + 7) (.slice (some ⟨gb, 0, none⟩) (A.length + 1) vc) (A.length + 1) (List.flatMap intCells (A ++ [z])) rfl ?_ (.slice (some ⟨W8.heap.size, 0, none⟩) 1 1) 1 (intCells [y0, y1, y2, y3, y4, y5, y6, y7, y8, y9]) rfl ?_ (one_ints _) (by omega) (by omega) (by simp; omega) ?_))
        · refine owns_ext (Ms := []) (w := W8) ?_ (Ext.of_below ((Below.refl _ _).alloc (Nat.le_refl _) _)) (by simp)
          simpa using HOW.out
        · exact SlAt.of_block 10 1 (heap_new0 _ _) rfl (by decide)
        · intro v' W9 hown hgr hown'
          obtain ⟨o9, c9, rfl⟩ := owns_slice hown
          have HO9 := Lib.hid hown
          have HG9 := Lib.hid hgr
          have HN9 := Lib.hid hown'
          have hg7 := owns_ge HV.out.2.1
          have hkeep9 : ∀ b, b < w.heap.size + 7 → b < W7.heap.size → W9.heap[b]? = W7.heap[b]? := fun b hb hb7 => by
            refine (hgr.block b (by simp; omega) (fun e => ?_)).trans ((Below.heap_alloc _ _ _ (by omega)).trans (HE8.out.block b hb7 (by simp)))
            have := hg7 b e.symm
            omega
          have hc9 := hc
          have hz10 : W8.heap.size < W9.heap.size := by have := hgr.size; simp at this; omega
          have e1 : W9.cell? ⟨w.heap.size + 1 + 1, 0, none⟩ = some (.slice (some ⟨gb, 0, none⟩) (A.length + 1) vc) := cell_of_block0 ((hkeep9 _ (by omega) d3).trans HV.out.1)
          have e2 : W9.frozen? ⟨w.heap.size + 1 + 1, 0, none⟩ = false := frozen_of_block ((hkeep9 _ (by omega) d3).trans HV.out.1) 0
          have e3 := World.block_lt_of_cell? W9 _ e1
          have HK9 := Lib.hid hkeep9
          clear hown hgr hown' hkeep9 hc9 hg8 hc hf hg7
          gi_wp2_with fail
          rw [HYS.out] at HDD
          obtain ⟨⟨hF9, hP9⟩, hks, hsz9⟩ := ev_push (ls := (A ++ [z])) (ys := [y0, y1, y2, y3, y4, y5, y6, y7, y8, y9]) HF7.out HP7.out HV.out.1 (fun g hg => ⟨owns_ge HV.out.2.1 g hg, (HV.out.2.2 g hg).1⟩) HE8.out HG9.out HN9.out (by simpa using HO9.out) hmb hw7
          have hg7 := owns_ge HV.out.2.1
          have hap := HF7.out.apart
          refine ⟨⟨?_, ?_, fun m hm h0 hml => ?_, by have := HK7.out.2.2.2; omega⟩, hF9, ?_⟩
          · exact (hks _ (by omega) (fun e => by have := hg7 _ e; omega) (by omega)).trans HK7.out.2.1
          · exact (hks _ (by omega) (fun e => by have := hg7 _ e; omega) (by omega)).trans HK7.out.2.2.1
          · exact (hks m (by have := HK7.out.2.2.2; omega) (fun e => (HV.out.2.2 m e).1 hm) (fun e => (hap (w.heap.size + 2) (by simp)).1 (by rw [← e]; exact hm))).trans (HK7.out.1 m hm h0 hml)
          · rw [HSU.out, HYS.out]
            exact HDD.out ▸ hP9
      · obtain rfl : z = ys := by simpa using hq
        have HDD : Hid (snocD (A ++ [z]) z = A ++ [z]) := Lib.hid (by
          unfold snocD
          rw [if_pos]
          simp)
        refine wpIn_region_rgR 13 [] none [] (by kernel_rfl) (by kernel_rfl) (by kernel_rfl) ?_
        simp only [List.take_succ_cons, List.take_zero, List.drop_succ_cons, List.drop_zero]
        repeat (first | (refine tree_det (by rfl) _ (by rfl) (fun W hW => by go_simp; (try simp (disch := omega) only [IntWalk.i64_in]); try rfl) ?_; simp only [Act.put, List.setIfInBounds_toArray, List.set_cons_succ, List.set_cons_zero]) | (refine tree_skip (by rfl) (by rfl) ?_; simp only [Act.put, List.setIfInBounds_toArray, List.set_cons_succ, List.set_cons_zero]))
        refine tree_det (by rfl) (.pointer (some ⟨gb, A.length * 10, none⟩)) (by rfl) (fun W hW => by go_simp; (try simp (disch := omega) only [IntWalk.i64_in]); (try rw [if_pos (by omega)]); (try simp); (try (intro hx; exfalso; omega))) ?_
        simp only [Act.put, List.setIfInBounds_toArray, List.set_cons_succ, List.set_cons_zero]
        refine tree_det (by rfl) (.agg (intCells z).toArray) (by rfl) (fun W hW => exec_load_mid 127 _ (by rfl) gb (A.length * 10) (by rfl) (intCells z) _ (fun j u hj => (hW gb _ hglt (by simp)).trans (hrng j u hj)) Try.underlying127 rfl (by rw [hzl]; kernel_rfl)) ?_
        simp only [Act.put, List.setIfInBounds_toArray, List.set_cons_succ, List.set_cons_zero]
        refine tree_det (by rfl) (.agg (intCells z).toArray) (by rfl) (fun W hW => exec_load_mid 127 _ (by rfl) W6.heap.size 0 (by rfl) (intCells z) _ (fun j u hj => (hW W6.heap.size _ d4 (by simp)).trans (hyr j u hj)) Try.underlying127 rfl (by rw [hzl]; kernel_rfl)) ?_
        simp only [Act.put, List.setIfInBounds_toArray, List.set_cons_succ, List.set_cons_zero]
        refine tree_det (by rfl) (.bool false) (by rfl) (fun W hW => (exec_neq_ints 127 3 _ 10 _ _ (by rfl) Try.underlying127 Try.underlying3 (by intro w; go_simp) (by kernel_rfl) z z (by rfl) (by rfl) hz10 hz10).trans (by simp)) ?_
        simp only [Act.put, List.setIfInBounds_toArray, List.set_cons_succ, List.set_cons_zero]
        repeat (first | (refine tree_det (by rfl) _ (by rfl) (fun W hW => by go_simp; (try simp (disch := omega) only [IntWalk.i64_in, Int.tdiv_eq_ediv_of_nonneg]); try rfl) ?_; simp only [Act.put, List.setIfInBounds_toArray, List.set_cons_succ, List.set_cons_zero]) | (refine tree_skip (by rfl) (by rfl) ?_; simp only [Act.put, List.setIfInBounds_toArray, List.set_cons_succ, List.set_cons_zero]))
        intro W8 hE8 hF8
        have hE : Ext [] W7 W8 := hE8
        obtain ⟨hc, hf⟩ := bcell hE.below
        have hz8 := hE.size
        have HE8 := Lib.hid hE
        clear hE hE8 hF8
        gi_wp2_with fail
        have hap := HF7.out.apart
        refine ⟨⟨?_, ?_, fun m hm h0 hml => ?_, by have := HK7.out.2.2.2; omega⟩, (HF7.out.step (HE8.out.nil) (fun m hm => .inl hm) (HF7.out.cache.kept (HE8.out.block mb HF7.out.cache.lt (by simp)))).1, ?_⟩
        · exact (HE8.out.block _ (hap (w.heap.size + 6) (by simp)).2 (by simp)).trans HK7.out.2.1
        · exact (HE8.out.block _ (hap (w.heap.size + 5) (by simp)).2 (by simp)).trans HK7.out.2.2.1
        · exact (HE8.out.block m (by have := HK7.out.2.2.2; omega) (by simp)).trans (HK7.out.1 m hm h0 hml)
        · rw [HSU.out, HDD.out]
          exact HP7.out.kept HE8.out.size (fun b h1 h2 => HE8.out.block b (by omega) (by simp)) (fun g h1 h2 h3 => HE8.out.block g h2 (by simp)) (fun m hm => .inl hm)
  case hdone =>
    rintro Ms W ⟨hF, hP⟩ hD hlt
    rw [everyTo_all] at hP
    obtain ⟨v, hv1, hv2, hv3⟩ := hP.out
    obtain ⟨vo, vc, rfl⟩ := owns_slice hv2
    have hc := cell_of_block0 hv1
    have hf := frozen_of_block hv1 0
    have hk := World.block_lt_of_cell? W _ hc
    have HF := Lib.hid hF
    have HV := Lib.hid (And.intro hv1 hv2)
    clear hF hP hv1 hv2 hv3
    gi_wp2_with fail
    rw [hsz2] at hD
    have hD' : (W.setCell ⟨w.heap.size + 1 + 1, 0, none⟩ (.slice vo (everyL h turns).length vc)).heap[w.heap.size + 5]? = some (.deferred (some [])) := (Below.heap_setCell _ _ _ _ (by show w.heap.size + 5 ≠ w.heap.size + 1 + 1; omega)).trans hD
    have hcell : ((W.setCell ⟨w.heap.size + 1 + 1, 0, none⟩ (.slice vo (everyL h turns).length vc)).putObj (w.heap.size + 5) (.deferred none)).cell? ⟨w.heap.size + 1 + 1, 0, none⟩ = some (.slice vo (everyL h turns).length vc) :=
      cell_of_block0 ((World.putObj_heap_other (by omega)).trans (set_block HV.out.1 _))
    refine ⟨by simp, .inl ⟨_, _, rfl, run_takeDeferred hD', ?_⟩⟩
    have hF2 := (HF.out.own (HF.out.ext.set (p := ⟨w.heap.size + 1 + 1, 0, none⟩) (by show w.heap.size ≤ w.heap.size + 1 + 1; omega) (.slice vo (everyL h turns).length vc)) (by simp [World.setCell]) (HF.out.cache.kept (Below.heap_setCell _ _ _ _ (by show mb ≠ w.heap.size + 1 + 1; omega)))).put (Obj.deferred none) (r := w.heap.size + 5) (by omega) hmb
    refine ⟨.slice vo (everyL h turns).length vc, by simp [results, Try.results83, go_sem, hcell], _, rfl, ?_, hF2.cache, hF2.ext⟩
    refine owns_base (owns_keep HV.out.2 fun g hg => (World.putObj_heap_other ?_).trans (Below.heap_setCell _ _ _ _ ?_)) (by omega)
    · have := (owns_ge HV.out.2 g hg).1; omega
    · have := (owns_ge HV.out.2 g hg).1; show g ≠ w.heap.size + 1 + 1; omega
  case hstop => rintro cd Ms W h; exact h.elim

end Go.Proofs.Ytoibfafmnaooaaa

/-
  Contracts of package couch, twenty-second part: Bounds, Keeps, ProveKeeps.
-/
import Derived.WalkKit
import Derived.WalkLawsBesides
import Derived.WalkSpells
import Derived.Outline
import Derived.Handy
import Derived.KernelRfl
import Derived.Lib.Hide
import Derived.Test.YtoibfafmnaooaaaW22
namespace Go.Proofs.Ytoibfafmnaooaaa
open Go.RowKit Go.RG Go.SL Go.Shelf Cou
set_option maxHeartbeats 400000
set_option maxRecDepth 10000

def boundsOut (h : HeapD) (turns : List Int) : List Rng := if askErr h turns = 0 then boundsL (h.last + 1).toNat (everyL h turns) else []

theorem ask_sound {h : HeapD} {turns : List Int} (he : askErr h turns = 0) : Sound h := by
  unfold askErr at he
  split at he
  · rename_i hf; exact absurd he hf
  · rename_i hf; exact sound_of (by simpa using hf)

theorem pairs_nil (w : World) : PairsAt w (.slice none 0 0) [] := ⟨rfl, none, 0, rfl, Nat.le_refl _, by decide, fun _ => rfl, fun a h => by cases h⟩

theorem below_ext {w W W' : World} {mb : Nat} (h : Below w.heap.size w W) (hE : Ext [mb] W W') (hm : w.heap.size ≤ mb) : Below w.heap.size w W' := below_of_ext h hE hm

theorem Bounds_any (h : HeapD) (wv tv xv' trv : Value) (turns : List Int) (w : World) (hw : PairsAt w wv h.wet) (ht : IntsAt w tv h.turns) (hx : TriplesAt w xv' h.readings) (htr : IntsAt w trv turns) :
    Calls Try.prog 35 #[hv h wv tv xv', trv] w (fun e w' => ∃ v, e = .returned (.tuple #[v, iv (askErr h turns)]) ∧ PairsAt w' v (boundsOut h turns) ∧ Below w.heap.size w w') := by
  obtain ⟨ow, cw, rfl⟩ := hw.open
  obtain ⟨ot, ct, rfl⟩ := ht.open
  obtain ⟨ox, cx, rfl⟩ := hx.open
  have HW := Lib.hid hw
  have HT := Lib.hid ht
  have HX := Lib.hid hx
  clear hw ht hx
  obtain ⟨oq, cq, rfl⟩ := htr.open
  have HQ := Lib.hid htr
  clear htr
  obtain ⟨E, hE⟩ : ∃ E, askErr h turns = E := ⟨_, rfl⟩
  rw [hE]
  have HE := Lib.hid hE
  clear hE
  go_enter Try.func35, Try.ntmps35
  go_wp2_with fail
  refine (asked_any h _ _ _ _ turns _ (HW.out.alloc _) (HT.out.alloc _) (HX.out.alloc _) (HQ.out.alloc _)).mono ?_
  rintro e w1 ⟨hb, ⟨hne, rfl⟩ | ⟨h0, wb, mb, rfl, hwb, hmb, hwk⟩⟩
  · rw [HE.out] at hne ⊢
    have HB := Lib.hid hb
    clear hb
    go_wp2_with fail
    go_returns
    exact ⟨.slice none 0 0, by simp, by unfold boundsOut; rw [HE.out, if_neg hne]; exact pairs_nil _, bgo (bgoAlloc (Below.refl _ _) _) HB.out⟩
  · have hE0 : E = 0 := by rw [← HE.out]; exact h0
    subst hE0
    have HB := Lib.hid hb
    have hS := ask_sound h0
    have HBD := Lib.hid (bounds_any h hS _ _ _ _ turns wb mb w1 hwk ((HW.out.alloc _).below hb (Nat.le_refl _)) ((HT.out.alloc _).below hb (Nat.le_refl _)) ((HX.out.alloc _).below hb (Nat.le_refl _)) ((HQ.out.alloc _).below hb (Nat.le_refl _)))
    have hmb' : w.heap.size ≤ mb := by simp at hmb; omega
    clear hb hwk h0 hS
    go_wp2_with fail
    refine HBD.out.mono ?_
    rintro e w2 ⟨v, rfl, hown, hcc, hE2⟩
    have HB2 := Lib.hid (below_of_ext (bgo (bgoAlloc (Below.refl _ _) _) HB.out) hE2 hmb')
    have hsl := SlAt.of_owns hown
    obtain ⟨vo, vc, rfl⟩ := owns_slice hown
    have HSL := Lib.hid hsl
    clear hown hcc hE2 hsl
    go_wp2_with fail
    go_returns
    refine ⟨.slice vo _ vc, by simp; rfl, ?_, HB2.out⟩
    unfold boundsOut
    rw [HE.out, if_pos rfl]
    exact HSL.out

/-! ### Keeps -/
def keepsV (h : HeapD) (turns : List Int) : Int :=
  if askErr h turns ≠ 0 then 0 else if (everyL h turns).all (keptL h) = true then 1 else if (everyL h turns).any (keptL h) = true then 3 else 2

theorem Keeps_any (h : HeapD) (wv tv xv' trv : Value) (turns : List Int) (w : World) (hw : PairsAt w wv h.wet) (ht : IntsAt w tv h.turns) (hx : TriplesAt w xv' h.readings) (htr : IntsAt w trv turns) :
    Calls Try.prog 42 #[hv h wv tv xv', trv] w (fun e w' => e = .returned (.tuple #[iv (keepsV h turns), iv (askErr h turns)]) ∧ Below w.heap.size w w') := by
  obtain ⟨ow, cw, rfl⟩ := hw.open
  obtain ⟨ot, ct, rfl⟩ := ht.open
  obtain ⟨ox, cx, rfl⟩ := hx.open
  have HW := Lib.hid hw
  have HT := Lib.hid ht
  have HX := Lib.hid hx
  clear hw ht hx
  obtain ⟨oq, cq, rfl⟩ := htr.open
  have HQ := Lib.hid htr
  clear htr
  obtain ⟨E, hE⟩ : ∃ E, askErr h turns = E := ⟨_, rfl⟩
  obtain ⟨V, hV⟩ : ∃ V, keepsV h turns = V := ⟨_, rfl⟩
  rw [hE, hV]
  have HE := Lib.hid hE
  have HV := Lib.hid hV
  clear hE hV
  go_enter Try.func42, Try.ntmps42
  go_wp2_with fail
  refine (asked_any h _ _ _ _ turns _ (HW.out.alloc _) (HT.out.alloc _) (HX.out.alloc _) (HQ.out.alloc _)).mono ?_
  rintro e w1 ⟨hb, ⟨hne, rfl⟩ | ⟨h0, wb, mb, rfl, hwb, hmb, hwk⟩⟩
  · rw [HE.out] at hne ⊢
    have hv0 : V = 0 := by
      have hne' : askErr h turns ≠ 0 := by rw [HE.out]; exact hne
      rw [← HV.out]
      unfold keepsV
      rw [if_pos hne']
    subst hv0
    have HB := Lib.hid hb
    clear hb
    go_wp2_with fail
    go_returns
    exact ⟨by simp, bgo (bgoAlloc (Below.refl _ _) _) HB.out⟩
  · have hE0 : E = 0 := by rw [← HE.out]; exact h0
    subst hE0
    have HB := Lib.hid hb
    have hS := ask_sound h0
    have HEV := Lib.hid (every_any h hS _ _ _ _ turns wb mb w1 hwk ((HW.out.alloc _).below hb (Nat.le_refl _)) ((HT.out.alloc _).below hb (Nat.le_refl _)) ((HX.out.alloc _).below hb (Nat.le_refl _)) ((HQ.out.alloc _).below hb (Nat.le_refl _)))
    have hmb' : w.heap.size + 1 ≤ mb := by simpa using hmb
    have hl0 := hS.last0
    have hl9 := hS.last9
    have hbx : w1.heap[w.heap.size]? = some (.cells #[.int .i64 h.last, .int .i64 h.size, .int .i64 h.cool, .int .i64 h.die, .int .i64 h.burn, .int .i64 h.start.1, .int .i64 h.start.2, .slice ow h.wet.length cw, .slice ot h.turns.length ct, .slice ox h.readings.length cx] 40 (0, 0)) := (hb.block _ (by simp)).trans (heap_new0 _ _)
    have HVV : Hid (V = if (everyL h turns).all (keptL h) = true then 1 else if (everyL h turns).any (keptL h) = true then 3 else 2) := Lib.hid (by
      rw [← HV.out]; unfold keepsV; rw [if_neg (by rw [h0]; simp)])
    have hten := everyL_ten (h := h) (turns := turns)
    generalize everyL h turns = ls at *
    have HBX := Lib.hid hbx
    have HTEN := Lib.hid hten
    clear hb hwk h0 hS hbx hten
    go_wp2_with fail
    refine HEV.out.mono ?_
    rintro e w2 ⟨v, rfl, hown, hcc, hE2⟩
    have hB2 := below_of_ext (bgo (bgoAlloc (Below.refl _ _) _) HB.out) hE2 (by omega)
    have hbx2 := (hE2.block w.heap.size (Array.getElem?_eq_some_iff.1 HBX.out).1 (by simp; omega)).trans HBX.out
    have hsl : HeatsAt w2 v ls := ⟨SlAt.of_owns hown, HTEN.out⟩
    obtain ⟨vo, vc, rfl⟩ := owns_slice hown
    have hc0 : ∀ i, w2.cell? ⟨w.heap.size, i, none⟩ = (#[.int .i64 h.last, .int .i64 h.size, .int .i64 h.cool, .int .i64 h.die, .int .i64 h.burn, .int .i64 h.start.1, .int .i64 h.start.2, .slice ow h.wet.length cw, .slice ot h.turns.length ct, .slice ox h.readings.length cx] : Array Value)[i]? := fun i => by
      simp only [World.cell?, hbx2]; rfl
    have hs2 := (Array.getElem?_eq_some_iff.1 hbx2).1
    have HB2 := Lib.hid hB2
    have HSL := Lib.hid hsl
    clear hown hcc hE2 hsl hB2 hbx2
    go_wp2_with fail
    have hkc : ∀ x ∈ ls, ∀ W, Calls Try.prog 85 ((#[hv h (.slice ow h.wet.length cw) (.slice ot h.turns.length ct) (.slice ox h.readings.length cx)] : Array Value).push (aggI x) ++ #[]) W (PV (.bool (keptL h x)) W) :=
      fun x hx W => kept_any h ow ot ox _ _ _ _ _ _ x (HTEN.out x hx) W hl0 hl9
    have HKC := Lib.hid hkc
    clear hkc
    refine (allH_pure ls (.slice vo ls.length vc) 85 #[hv h (.slice ow h.wet.length cw) (.slice ot h.turns.length ct) (.slice ox h.readings.length cx)] #[] (keptL h) w2 HSL.out (enters_of Try.func85 (by kernel_rfl) rfl) (fun x hx W _ => HKC.out x hx W)).mono ?_
    rintro e w3 ⟨rfl, hb3⟩
    have HB3 := Lib.hid hb3
    have hc3 : ∀ i, w3.cell? ⟨w.heap.size, i, none⟩ = (#[.int .i64 h.last, .int .i64 h.size, .int .i64 h.cool, .int .i64 h.die, .int .i64 h.burn, .int .i64 h.start.1, .int .i64 h.start.2, .slice ow h.wet.length cw, .slice ot h.turns.length ct, .slice ox h.readings.length cx] : Array Value)[i]? := fun i => (hb3.cell (p := ⟨w.heap.size, i, none⟩) hs2).trans (hc0 i)
    clear hb3 hc0
    obtain ⟨A, hA⟩ : ∃ A, ls.all (keptL h) = A := ⟨_, rfl⟩
    rw [hA] at HVV ⊢
    clear hA
    cases A
    · go_wp2_with fail
      refine (contH_pure ls (.slice vo ls.length vc) 85 #[hv h (.slice ow h.wet.length cw) (.slice ot h.turns.length ct) (.slice ox h.readings.length cx)] #[] (keptL h) w3 (HSL.out.below HB3.out) (enters_of Try.func85 (by kernel_rfl) rfl) (fun x hx W _ => HKC.out x hx W)).mono ?_
      rintro e w4 ⟨rfl, hb4⟩
      have HB4 := Lib.hid hb4
      clear hb4 hc3
      obtain ⟨A, hA⟩ : ∃ A, ls.any (keptL h) = A := ⟨_, rfl⟩
      rw [hA] at HVV ⊢
      clear hA
      cases A
      all_goals
        go_wp2_with fail
        go_returns
        exact ⟨by rw [HVV.out]; simp, bgo (bgo HB2.out HB3.out) HB4.out⟩
    · go_wp2_with fail
      go_returns
      exact ⟨by rw [HVV.out]; simp, bgo HB2.out HB3.out⟩

theorem ProveKeeps_any (h : HeapD) (wv tv xv' trv : Value) (turns : List Int) (w : World) (hw : PairsAt w wv h.wet) (ht : IntsAt w tv h.turns) (hx : TriplesAt w xv' h.readings) (htr : IntsAt w trv turns) :
    Calls Try.prog 50 #[hv h wv tv xv', trv] w (fun e w' => e = .returned (.bool (askErr h turns == 0 && keepsV h turns == 1)) ∧ Below w.heap.size w w') := by
  obtain ⟨ow, cw, rfl⟩ := hw.open
  obtain ⟨ot, ct, rfl⟩ := ht.open
  obtain ⟨ox, cx, rfl⟩ := hx.open
  have HW := Lib.hid hw
  have HT := Lib.hid ht
  have HX := Lib.hid hx
  clear hw ht hx
  obtain ⟨oq, cq, rfl⟩ := htr.open
  have HK := Lib.hid (Keeps_any h _ _ _ _ turns _ (HW.out.alloc (.cells #[.int .i64 h.last, .int .i64 h.size, .int .i64 h.cool, .int .i64 h.die, .int .i64 h.burn, .int .i64 h.start.1, .int .i64 h.start.2, .slice ow h.wet.length cw, .slice ot h.turns.length ct, .slice ox h.readings.length cx] 40)) (HT.out.alloc _) (HX.out.alloc _) (htr.alloc _))
  clear htr
  generalize askErr h turns = E at *
  generalize keepsV h turns = V at *
  go_enter Try.func50, Try.ntmps50
  go_wp2_with fail
  refine HK.out.mono ?_
  rintro e w1 ⟨rfl, hb⟩
  have HB := Lib.hid (bgo (bgoAlloc (Below.refl _ _) _) hb)
  clear hb
  by_cases hE : E = 0
  · subst hE
    go_wp2_with fail
    go_returns
    exact ⟨by simp, HB.out⟩
  · have hE2 : (E == 0) = false := by simpa using hE
    go_wp2_with fail
    go_returns
    exact ⟨by simp [hE2], HB.out⟩

end Go.Proofs.Ytoibfafmnaooaaa

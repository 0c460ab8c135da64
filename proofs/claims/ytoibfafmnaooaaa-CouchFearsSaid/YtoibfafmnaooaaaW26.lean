/-
  Contracts of package couch, twenty-fifth part: First.
-/
import Derived.WalkKit
import Derived.WalkLawsBesides
import Derived.WalkSpells
import Derived.Outline
import Derived.Handy
import Derived.KernelRfl
import Derived.Lib.Hide
import Derived.Test.YtoibfafmnaooaaaW25
namespace Go.Proofs.Ytoibfafmnaooaaa
open Go.RowKit Go.RG Go.SL Go.Shelf Cou
set_option maxHeartbeats 400000
set_option maxRecDepth 10000

theorem slice_upto (b off n c k : Nat) (hk : k < n) (hn : n ≤ c) (W : World) :
    (Instr.slice 38 (.slice (some ⟨b, off, none⟩) n c) none (some (.int .i64 ((k : Int) + 1))) none).run Try.prog W = .ok (.slice (some ⟨b, off, none⟩) (k + 1) c) W := by
  have := run_slice_h (P := Try.prog) W 38 (some ⟨b, off, none⟩) n c (by kernel_rfl) .i64 ((k : Int) + 1) (by omega) (by omega)
  rw [this]
  have h1 : ((k : Int) + 1).toNat = k + 1 := by omega
  have h2 : c ≠ 0 := by omega
  simp [go_sem, sliced, h1, h2]

theorem triples_take {w : World} {o : Option Addr} {n c : Nat} {l : List Rdg} (h : SlAt 3 w (.slice o n c) n (tripleCells l)) (k : Nat) (hk : k ≤ n) : TriplesAt w (.slice o (l.take k).length c) (l.take k) := by
  obtain ⟨hl, o', c', hv, h1, h2, h3, h4⟩ := h
  cases hv
  have hlen : (tripleCells l).length = l.length * 3 := by simp [tripleCells, List.length_flatMap, List.map_const', List.sum_replicate_nat]
  have hlen2 : (tripleCells (l.take k)).length = (l.take k).length * 3 := by simp [tripleCells, List.length_flatMap, List.map_const', List.sum_replicate_nat]
  refine ⟨hlen2, o, c, rfl, by simp; omega, h2, h3, fun a ha => ⟨(h4 a ha).1, fun j u hj => (h4 a ha).2 j u ?_⟩⟩
  have e : tripleCells l = tripleCells (l.take k) ++ tripleCells (l.drop k) := by
    unfold tripleCells
    rw [← List.flatMap_append, List.take_append_drop]
  rw [e, List.getElem?_append_left (List.getElem?_eq_some_iff.1 hj).1]
  exact hj

theorem First_any (h : HeapD) (wv tv xv' : Value) (w : World) (hw : PairsAt w wv h.wet) (ht : IntsAt w tv h.turns) (hx : TriplesAt w xv' h.readings) :
    Calls Try.prog 27 #[hv h wv tv xv'] w (fun e w' => e = .returned (.tuple #[iv (firstV h), iv (firstE h)]) ∧ Below w.heap.size w w') := by
  obtain ⟨ow, cw, rfl⟩ := hw.open
  obtain ⟨ot, ct, rfl⟩ := ht.open
  obtain ⟨ox, cx, rfl⟩ := hx.open
  have HW := Lib.hid hw
  have HT := Lib.hid ht
  have HX := Lib.hid hx
  clear hw ht hx
  by_cases hf0 : fault h = 0
  case neg =>
    have hl : firstV h = 0 := by unfold firstV; rw [if_pos hf0]
    have hl2 : firstE h = fault h := by unfold firstE; rw [if_pos hf0]
    rw [hl, hl2]
    clear hl hl2
    generalize hff : fault h = f at *
    have HF := Lib.hid hff
    clear hff
    go_enter Try.func27, Try.ntmps27
    go_wp2_with fail
    refine (check_any h _ _ _ _ (HW.out.alloc _) (HT.out.alloc _) (HX.out.alloc _)).mono ?_
    rintro e w' ⟨rfl, hb⟩
    rw [HF.out]
    have HB := Lib.hid hb
    clear hb
    go_wp2_with fail
    go_returns
    exact ⟨by simp, bgo (bgoAlloc (Below.refl _ _) _) HB.out⟩
  have hS := sound_of hf0
  have hn5 := hS.rdgs
  obtain ⟨V, hV⟩ : ∃ V, firstV h = V := ⟨_, rfl⟩
  obtain ⟨E, hE⟩ : ∃ E, firstE h = E := ⟨_, rfl⟩
  have hVV : V = optV (firstS h) := by rw [← hV]; unfold firstV; rw [if_neg (by simpa using hf0)]
  have hEE : E = optE (firstS h) := by rw [← hE]; unfold firstE; rw [if_neg (by simpa using hf0)]
  rw [hV, hE]
  have HF := Lib.hid hf0
  have HSS := Lib.hid hS
  have HVE := Lib.hid (And.intro hVV hEE)
  clear hf0 hS hV hE hVV hEE
  go_enter Try.func27, Try.ntmps27
  go_wp2_with fail
  refine (check_any h _ _ _ _ (HW.out.alloc _) (HT.out.alloc _) (HX.out.alloc _)).mono ?_
  rintro e w1 ⟨rfl, hb⟩
  rw [HF.out]
  have hb0 : w1.heap[w.heap.size]? = some (.cells #[.int .i64 h.last, .int .i64 h.size, .int .i64 h.cool, .int .i64 h.die, .int .i64 h.burn, .int .i64 h.start.1, .int .i64 h.start.2, .slice ow h.wet.length cw, .slice ot h.turns.length ct, .slice ox h.readings.length cx] 40 (0, 0)) := (hb.block _ (by simp)).trans (heap_new0 _ _)
  have hc1 : ∀ i, w1.cell? ⟨w.heap.size, i, none⟩ = (#[.int .i64 h.last, .int .i64 h.size, .int .i64 h.cool, .int .i64 h.die, .int .i64 h.burn, .int .i64 h.start.1, .int .i64 h.start.2, .slice ow h.wet.length cw, .slice ot h.turns.length ct, .slice ox h.readings.length cx] : Array Value)[i]? := fun i => by
    simp only [World.cell?, hb0]; rfl
  have s0 := (Array.getElem?_eq_some_iff.1 hb0).1
  have HB := Lib.hid (bgo (bgoAlloc (Below.refl _ _) _) hb)
  have HB0 := Lib.hid hb0
  clear hb hb0
  go_wp2_with fail
  refine (work_any h ow ot ox _ _ _ _ _ _ w1).mono ?_
  rintro e w2 ⟨wb, mb, rfl, h1, h2, h3, h4⟩
  have HB2 := Lib.hid (bgo HB.out h4)
  have hb0 := (h4.block _ s0).trans HB0.out
  have hc2 : ∀ i, w2.cell? ⟨w.heap.size, i, none⟩ = (#[.int .i64 h.last, .int .i64 h.size, .int .i64 h.cool, .int .i64 h.die, .int .i64 h.burn, .int .i64 h.start.1, .int .i64 h.start.2, .slice ow h.wet.length cw, .slice ot h.turns.length ct, .slice ox h.readings.length cx] : Array Value)[i]? := fun i => by
    simp only [World.cell?, hb0]; rfl
  have s2 := (Array.getElem?_eq_some_iff.1 hb0).1
  have HB02 := Lib.hid hb0
  have HWK := Lib.hid h3
  have hwbS : w.heap.size < wb := by omega
  have hmbS : w.heap.size < mb := by omega
  have hlenx := HX.out.len
  clear h3 h4 hb0 hc1
  go_wp2_with fail
  go_loopw [17] (fun u wr => ∃ k : Nat, k ≤ h.readings.length ∧ u = .int .i64 k ∧ Below w.heap.size w wr ∧ wr.heap[w.heap.size]? = some (.cells #[.int .i64 h.last, .int .i64 h.size, .int .i64 h.cool, .int .i64 h.die, .int .i64 h.burn, .int .i64 h.start.1, .int .i64 h.start.2, .slice ow h.wet.length cw, .slice ot h.turns.length ct, .slice ox h.readings.length cx] 40 (0, 0)) ∧
      (∃ c', WorkAt wr wb mb h (.slice ow h.wet.length cw) (.slice ot h.turns.length ct) c') ∧ ∀ j, j < k → wrongAt h j = false) (fun u _ => h.readings.length - (intOf u).toNat)
  case atStart => exact ⟨0, Nat.zero_le _, rfl, HB2.out, HB02.out, ⟨_, HWK.out⟩, fun j hj => by omega⟩
  case round =>
    obtain ⟨k, hk, rfl, hB, hb0, ⟨c', hwk⟩, hno⟩ := hrel
    have HNO := Lib.hid hno
    have HBW := Lib.hid hB
    by_cases hlt : k < h.readings.length
    · have hc0 : ∀ i, wr.cell? ⟨w.heap.size, i, none⟩ = (#[.int .i64 h.last, .int .i64 h.size, .int .i64 h.cool, .int .i64 h.die, .int .i64 h.burn, .int .i64 h.start.1, .int .i64 h.start.2, .slice ow h.wet.length cw, .slice ot h.turns.length ct, .slice ox h.readings.length cx] : Array Value)[i]? := fun i => by
        simp only [World.cell?, hb0]; rfl
      have t0 := (Array.getElem?_eq_some_iff.1 hb0).1
      obtain ⟨b, off, rfl, hb, _⟩ := TriplesAt.cell HX.out hlt
      have hncx : h.readings.length ≤ cx := by
        obtain ⟨_, o', c2, hv, hh, _⟩ := HX.out
        cases hv
        exact hh
      have hsl := slice_upto b off h.readings.length cx k hlt hncx
      have hwc := hwk.cell
      have hwf := frozen_of_block hwk.cells 9
      have t1 := hwk.lt
      have hwb9 : wr.cell? ⟨wb, 9, none⟩ = some c' := by rw [hwc]; rfl
      have hltI : (k : Int) < h.readings.length := by omega
      have hkI : (k : Int) + 1 ≤ 9223372036854775807 := by omega
      have hln : (h.readings.take (k + 1)).length = k + 1 := by simp; omega
      have hW1 : WorkAt (wr.setCell ⟨wb, 9, none⟩ (.slice (some ⟨b, off, none⟩) (k + 1) cx)) wb mb (withR h (k + 1)) (.slice ow h.wet.length cw) (.slice ot h.turns.length ct) (.slice (some ⟨b, off, none⟩) (k + 1) cx) :=
        ⟨set_block hwk.cells _, hwk.cache.kept (Below.heap_setCell _ _ _ _ (fun e => hwk.ne e.symm))⟩
      have hB1 : Below w.heap.size w (wr.setCell ⟨wb, 9, none⟩ (.slice (some ⟨b, off, none⟩) (k + 1) cx)) := bgoSet hB (by show w.heap.size ≤ wb; omega) _
      have htk : TriplesAt (wr.setCell ⟨wb, 9, none⟩ (.slice (some ⟨b, off, none⟩) (k + 1) cx)) (.slice (some ⟨b, off, none⟩) (k + 1) cx) (withR h (k + 1)).readings := by
        have := SlAt.below (triples_take HX.out (k + 1) (by omega)) hB1 (Nat.le_refl _)
        show SlAt 3 (wr.setCell ⟨wb, 9, none⟩ (.slice (some ⟨b, off, none⟩) (k + 1) cx)) (.slice (some ⟨b, off, none⟩) (k + 1) cx) (h.readings.take (k + 1)).length (tripleCells (h.readings.take (k + 1)))
        rw [hln] at this ⊢
        exact this
      have HPS := Lib.hid (possible_any (withR h (k + 1)) (withR_sound HSS.out (k + 1)) (.slice ow h.wet.length cw) (.slice ot h.turns.length ct) (.slice (some ⟨b, off, none⟩) (k + 1) cx) (.slice none 0 0) [] wb mb _ hW1 (HW.out.below hB1 (Nat.le_refl _)) (HT.out.below hB1 (Nat.le_refl _)) htk (ints_nil _))
      have hwr : (truthsL (withR h (k + 1)) []).isEmpty = wrongAt h k := rfl
      rw [hwr] at HPS
      obtain ⟨q, hq⟩ : ∃ q, wrongAt h k = q := ⟨_, rfl⟩
      rw [hq] at HPS
      have HQ := Lib.hid hq
      have HW1 := Lib.hid (And.intro hW1 hB1)
      have HB0' := Lib.hid hb0
      clear hno hB hb0 hwk hW1 hB1 htk hq hwr hwc
      go_wp2_with fail
      refine HPS.out.mono ?_
      rintro e w3 ⟨rfl, hcc, hE3⟩
      have HR := Lib.hid (And.intro hcc hE3)
      clear hcc hE3 hc0
      cases q
      · go_wp2_with fail
        go_roundw
        case rel =>
          refine ⟨k + 1, by omega, by go_num, below_of_ext HW1.out.2 HR.out.2 (by omega), ?_, ⟨.slice (some ⟨b, off, none⟩) (k + 1) cx, ?_⟩, fun j hj => ?_⟩
          · exact (HR.out.2.block _ (by simpa [World.setCell] using t0) (by simp; omega)).trans ((Below.heap_setCell _ _ _ _ (by show w.heap.size ≠ wb; omega)).trans HB0'.out)
          · have hx := HW1.out.1.ext HR.out.2 HR.out.1
            exact ⟨hx.cells, hx.cache⟩
          · by_cases e : j = k
            · subst e; exact HQ.out
            · exact HNO.out j (by omega)
        case measure => simp [intOf]; omega
      · have hfs := firstS_at hlt HNO.out HQ.out
        have hv0 : V = k := by rw [HVE.out.1, hfs]; rfl
        have he0 : E = 0 := by rw [HVE.out.2, hfs]; rfl
        subst hv0
        subst he0
        go_wp2_with fail
        go_returns
        exact ⟨by simp, below_of_ext HW1.out.2 HR.out.2 (by omega)⟩
    · have hkl : k = h.readings.length := by omega
      have hfs : firstS h = none := firstS_no (fun j hj => hno j (by omega))
      have hv0 : V = 0 := by rw [HVE.out.1, hfs]; rfl
      have he0 : E = 7 := by rw [HVE.out.2, hfs]; rfl
      subst hv0
      subst he0
      clear hno hB hb0 hwk
      go_wp2_with fail
      go_returns
      exact ⟨by simp, HBW.out⟩

end Go.Proofs.Ytoibfafmnaooaaa

/-
  Contracts of package couch, twenty-fifth part: First.
  Contracts of package couch, twenty-sixth part: safe.
  Contracts of package couch, twenty-seventh part: Fewest.
  Contracts of package couch, twenty-eighth part: Fewest.
  Contracts of the law's helpers: between, first, ints, list, to, one.
  What the chapter's heap answers: closed, by evaluation.
  awake: the chapter's examples.
-/
import Derived.WalkKit
import Derived.WalkLawsBesides
import Derived.WalkSpells
import Derived.Outline
import Derived.Handy
import Derived.KernelRfl
import Derived.Lib.Hide
import Derived.Test.YtoibfafmnaooaaaWD
namespace Go.Proofs.Ytoibfafmnaooaaa
open Go.RowKit Go.RG Go.SL Go.Shelf Cou
set_option maxHeartbeats 400000
set_option maxRecDepth 10000

theorem slice_upto (b off n c k : Nat) (hk : k < n) (hn : n ≤ c) (W : World) :
    (Instr.slice 38 (.slice (some ⟨b, off, none⟩) n c) none (some (.int .i64 ((k : Int) + 1))) none).run Try.prog W = .ok (.slice (some ⟨b, off, none⟩) (k + 1) c) W := by
  have := run_slice_h (P := Try.prog) W 38 (some ⟨b, off, none⟩) n c (by kernel_rfl) .i64 ((k : Int) + 1) (by omega) (by omega)
  rw [this]
  have h1 : ((k : Int) + 1).toNat = k + 1 := by omega
  have h2 : c ≠ 0 := by omega
  simp [go_sem, sliced, h1, h2]

theorem triples_take {w : World} {o : Option Addr} {n c : Nat} {l : List Rdg} (h : SlAt 3 w (.slice o n c) n (tripleCells l)) (k : Nat) (hk : k ≤ n) : TriplesAt w (.slice o (l.take k).length c) (l.take k) := by
  obtain ⟨hl, o', c', hv, h1, h2, h3, h4⟩ := h
  cases hv
  have hlen : (tripleCells l).length = l.length * 3 := by simp [tripleCells, List.length_flatMap, List.map_const', List.sum_replicate_nat]
  have hlen2 : (tripleCells (l.take k)).length = (l.take k).length * 3 := by simp [tripleCells, List.length_flatMap, List.map_const', List.sum_replicate_nat]
  refine ⟨hlen2, o, c, rfl, by simp; omega, h2, h3, fun a ha => ⟨(h4 a ha).1, fun j u hj => (h4 a ha).2 j u ?_⟩⟩
  have e : tripleCells l = tripleCells (l.take k) ++ tripleCells (l.drop k) := by
    unfold tripleCells
    rw [← List.flatMap_append, List.take_append_drop]
  rw [e, List.getElem?_append_left (List.getElem?_eq_some_iff.1 hj).1]
  exact hj

theorem First_any (h : HeapD) (wv tv xv' : Value) (w : World) (hw : PairsAt w wv h.wet) (ht : IntsAt w tv h.turns) (hx : TriplesAt w xv' h.readings) :
    Calls Try.prog 27 #[hv h wv tv xv'] w (fun e w' => e = .returned (.tuple #[iv (firstV h), iv (firstE h)]) ∧ Below w.heap.size w w') := by
  obtain ⟨ow, cw, rfl⟩ := hw.open
  obtain ⟨ot, ct, rfl⟩ := ht.open
  obtain ⟨ox, cx, rfl⟩ := hx.open
  have HW := Lib.hid hw
  have HT := Lib.hid ht
  have HX := Lib.hid hx
  clear hw ht hx
  by_cases hf0 : fault h = 0
  case neg =>
    have hl : firstV h = 0 := by unfold firstV; rw [if_pos hf0]
    have hl2 : firstE h = fault h := by unfold firstE; rw [if_pos hf0]
    rw [hl, hl2]
    clear hl hl2
    generalize hff : fault h = f at *
    have HF := Lib.hid hff
    clear hff
    go_enter Try.func27, Try.ntmps27
    go_wp2_with fail
    refine (check_any h _ _ _ _ (HW.out.alloc _) (HT.out.alloc _) (HX.out.alloc _)).mono ?_
    rintro e w' ⟨rfl, hb⟩
    rw [HF.out]
    have HB := Lib.hid hb
    clear hb
    go_wp2_with fail
    go_returns
    exact ⟨by simp, bgo (bgoAlloc (Below.refl _ _) _) HB.out⟩
  have hS := sound_of hf0
  have hn5 := hS.rdgs
  obtain ⟨V, hV⟩ : ∃ V, firstV h = V := ⟨_, rfl⟩
  obtain ⟨E, hE⟩ : ∃ E, firstE h = E := ⟨_, rfl⟩
  have hVV : V = optV (firstS h) := by rw [← hV]; unfold firstV; rw [if_neg (by simpa using hf0)]
  have hEE : E = optE (firstS h) := by rw [← hE]; unfold firstE; rw [if_neg (by simpa using hf0)]
  rw [hV, hE]
  have HF := Lib.hid hf0
  have HSS := Lib.hid hS
  have HVE := Lib.hid (And.intro hVV hEE)
  clear hf0 hS hV hE hVV hEE
  go_enter Try.func27, Try.ntmps27
  go_wp2_with fail
  refine (check_any h _ _ _ _ (HW.out.alloc _) (HT.out.alloc _) (HX.out.alloc _)).mono ?_
  rintro e w1 ⟨rfl, hb⟩
  rw [HF.out]
  have hb0 : w1.heap[w.heap.size]? = some (.cells #[.int .i64 h.last, .int .i64 h.size, .int .i64 h.cool, .int .i64 h.die, .int .i64 h.burn, .int .i64 h.start.1, .int .i64 h.start.2, .slice ow h.wet.length cw, .slice ot h.turns.length ct, .slice ox h.readings.length cx] 40 (0, 0)) := (hb.block _ (by simp)).trans (heap_new0 _ _)
  have hc1 : ∀ i, w1.cell? ⟨w.heap.size, i, none⟩ = (#[.int .i64 h.last, .int .i64 h.size, .int .i64 h.cool, .int .i64 h.die, .int .i64 h.burn, .int .i64 h.start.1, .int .i64 h.start.2, .slice ow h.wet.length cw, .slice ot h.turns.length ct, .slice ox h.readings.length cx] : Array Value)[i]? := fun i => by
    simp only [World.cell?, hb0]; rfl
  have s0 := (Array.getElem?_eq_some_iff.1 hb0).1
  have HB := Lib.hid (bgo (bgoAlloc (Below.refl _ _) _) hb)
  have HB0 := Lib.hid hb0
  clear hb hb0
  go_wp2_with fail
  refine (work_any h ow ot ox _ _ _ _ _ _ w1).mono ?_
  rintro e w2 ⟨wb, mb, rfl, h1, h2, h3, h4⟩
  have HB2 := Lib.hid (bgo HB.out h4)
  have hb0 := (h4.block _ s0).trans HB0.out
  have hc2 : ∀ i, w2.cell? ⟨w.heap.size, i, none⟩ = (#[.int .i64 h.last, .int .i64 h.size, .int .i64 h.cool, .int .i64 h.die, .int .i64 h.burn, .int .i64 h.start.1, .int .i64 h.start.2, .slice ow h.wet.length cw, .slice ot h.turns.length ct, .slice ox h.readings.length cx] : Array Value)[i]? := fun i => by
    simp only [World.cell?, hb0]; rfl
  have s2 := (Array.getElem?_eq_some_iff.1 hb0).1
  have HB02 := Lib.hid hb0
  have HWK := Lib.hid h3
  have hwbS : w.heap.size < wb := by omega
  have hmbS : w.heap.size < mb := by omega
  have hlenx := HX.out.len
  clear h3 h4 hb0 hc1
  go_wp2_with fail
  go_loopw [17] (fun u wr => ∃ k : Nat, k ≤ h.readings.length ∧ u = .int .i64 k ∧ Below w.heap.size w wr ∧ wr.heap[w.heap.size]? = some (.cells #[.int .i64 h.last, .int .i64 h.size, .int .i64 h.cool, .int .i64 h.die, .int .i64 h.burn, .int .i64 h.start.1, .int .i64 h.start.2, .slice ow h.wet.length cw, .slice ot h.turns.length ct, .slice ox h.readings.length cx] 40 (0, 0)) ∧
      (∃ c', WorkAt wr wb mb h (.slice ow h.wet.length cw) (.slice ot h.turns.length ct) c') ∧ ∀ j, j < k → wrongAt h j = false) (fun u _ => h.readings.length - (intOf u).toNat)
  case atStart => exact ⟨0, Nat.zero_le _, rfl, HB2.out, HB02.out, ⟨_, HWK.out⟩, fun j hj => by omega⟩
  case round =>
    obtain ⟨k, hk, rfl, hB, hb0, ⟨c', hwk⟩, hno⟩ := hrel
    have HNO := Lib.hid hno
    have HBW := Lib.hid hB
    by_cases hlt : k < h.readings.length
    · have hc0 : ∀ i, wr.cell? ⟨w.heap.size, i, none⟩ = (#[.int .i64 h.last, .int .i64 h.size, .int .i64 h.cool, .int .i64 h.die, .int .i64 h.burn, .int .i64 h.start.1, .int .i64 h.start.2, .slice ow h.wet.length cw, .slice ot h.turns.length ct, .slice ox h.readings.length cx] : Array Value)[i]? := fun i => by
        simp only [World.cell?, hb0]; rfl
      have t0 := (Array.getElem?_eq_some_iff.1 hb0).1
      obtain ⟨b, off, rfl, hb, _⟩ := TriplesAt.cell HX.out hlt
      have hncx : h.readings.length ≤ cx := by
        obtain ⟨_, o', c2, hv, hh, _⟩ := HX.out
        cases hv
        exact hh
      have hsl := slice_upto b off h.readings.length cx k hlt hncx
      have hwc := hwk.cell
      have hwf := frozen_of_block hwk.cells 9
      have t1 := hwk.lt
      have hwb9 : wr.cell? ⟨wb, 9, none⟩ = some c' := by rw [hwc]; rfl
      have hltI : (k : Int) < h.readings.length := by omega
      have hkI : (k : Int) + 1 ≤ 9223372036854775807 := by omega
      have hln : (h.readings.take (k + 1)).length = k + 1 := by simp; omega
      have hW1 : WorkAt (wr.setCell ⟨wb, 9, none⟩ (.slice (some ⟨b, off, none⟩) (k + 1) cx)) wb mb (withR h (k + 1)) (.slice ow h.wet.length cw) (.slice ot h.turns.length ct) (.slice (some ⟨b, off, none⟩) (k + 1) cx) :=
        ⟨set_block hwk.cells _, hwk.cache.kept (Below.heap_setCell _ _ _ _ (fun e => hwk.ne e.symm))⟩
      have hB1 : Below w.heap.size w (wr.setCell ⟨wb, 9, none⟩ (.slice (some ⟨b, off, none⟩) (k + 1) cx)) := bgoSet hB (by show w.heap.size ≤ wb; omega) _
      have htk : TriplesAt (wr.setCell ⟨wb, 9, none⟩ (.slice (some ⟨b, off, none⟩) (k + 1) cx)) (.slice (some ⟨b, off, none⟩) (k + 1) cx) (withR h (k + 1)).readings := by
        have := SlAt.below (triples_take HX.out (k + 1) (by omega)) hB1 (Nat.le_refl _)
        show SlAt 3 (wr.setCell ⟨wb, 9, none⟩ (.slice (some ⟨b, off, none⟩) (k + 1) cx)) (.slice (some ⟨b, off, none⟩) (k + 1) cx) (h.readings.take (k + 1)).length (tripleCells (h.readings.take (k + 1)))
        rw [hln] at this ⊢
        exact this
      have HPS := Lib.hid (possible_any (withR h (k + 1)) (withR_sound HSS.out (k + 1)) (.slice ow h.wet.length cw) (.slice ot h.turns.length ct) (.slice (some ⟨b, off, none⟩) (k + 1) cx) (.slice none 0 0) [] wb mb _ hW1 (HW.out.below hB1 (Nat.le_refl _)) (HT.out.below hB1 (Nat.le_refl _)) htk (ints_nil _))
      have hwr : (truthsL (withR h (k + 1)) []).isEmpty = wrongAt h k := rfl
      rw [hwr] at HPS
      obtain ⟨q, hq⟩ : ∃ q, wrongAt h k = q := ⟨_, rfl⟩
      rw [hq] at HPS
      have HQ := Lib.hid hq
      have HW1 := Lib.hid (And.intro hW1 hB1)
      have HB0' := Lib.hid hb0
      clear hno hB hb0 hwk hW1 hB1 htk hq hwr hwc
      go_wp2_with fail
      refine HPS.out.mono ?_
      rintro e w3 ⟨rfl, hcc, hE3⟩
      have HR := Lib.hid (And.intro hcc hE3)
      clear hcc hE3 hc0
      cases q
      · go_wp2_with fail
        go_roundw
        case rel =>
          refine ⟨k + 1, by omega, by go_num, below_of_ext HW1.out.2 HR.out.2 (by omega), ?_, ⟨.slice (some ⟨b, off, none⟩) (k + 1) cx, ?_⟩, fun j hj => ?_⟩
          · exact (HR.out.2.block _ (by simpa [World.setCell] using t0) (by simp; omega)).trans ((Below.heap_setCell _ _ _ _ (by show w.heap.size ≠ wb; omega)).trans HB0'.out)
          · have hx := HW1.out.1.ext HR.out.2 HR.out.1
            exact ⟨hx.cells, hx.cache⟩
          · by_cases e : j = k
            · subst e; exact HQ.out
            · exact HNO.out j (by omega)
        case measure => simp [intOf]; omega
      · have hfs := firstS_at hlt HNO.out HQ.out
        have hv0 : V = k := by rw [HVE.out.1, hfs]; rfl
        have he0 : E = 0 := by rw [HVE.out.2, hfs]; rfl
        subst hv0
        subst he0
        go_wp2_with fail
        go_returns
        exact ⟨by simp, below_of_ext HW1.out.2 HR.out.2 (by omega)⟩
    · have hkl : k = h.readings.length := by omega
      have hfs : firstS h = none := firstS_no (fun j hj => hno j (by omega))
      have hv0 : V = 0 := by rw [HVE.out.1, hfs]; rfl
      have he0 : E = 7 := by rw [HVE.out.2, hfs]; rfl
      subst hv0
      subst he0
      clear hno hB hb0 hwk
      go_wp2_with fail
      go_returns
      exact ⟨by simp, HBW.out⟩

end Go.Proofs.Ytoibfafmnaooaaa

namespace Go.Proofs.Ytoibfafmnaooaaa
open Go.RowKit Go.RG Go.SL Go.Shelf Cou
set_option maxHeartbeats 400000
set_option maxRecDepth 10000

/-- A truth in a slice: its start, the slice of its wetnesses, and these. -/
abbrev TE := Int × Value × List Int
abbrev tev (e : TE) : Value := .agg #[iv e.1, e.2.1]
def teCells (es : List TE) : List Value := es.flatMap fun e => [iv e.1, e.2.1]
def TEAt (w : World) (v : Value) (es : List TE) : Prop := SlAt 2 w v es.length (teCells es)
theorem TEAt.len {w : World} {v : Value} {es : List TE} (h : TEAt w v es) : es.length ≤ 9223372036854775807 := SlAt.len h
theorem TEAt.open {w : World} {v : Value} {es : List TE} (h : TEAt w v es) : ∃ o c, v = .slice o es.length c := SlAt.open h
theorem TEAt.cell {w : World} {o : Option Addr} {c : Nat} {es : List TE} (h : TEAt w (.slice o es.length c) es) {k : Nat} (hk : k < es.length) :
    ∃ b off, o = some ⟨b, off, none⟩ ∧ b < w.heap.size ∧ w.cell? ⟨b, off + k * 2, none⟩ = some (iv es[k].1) ∧ w.cell? ⟨b, off + k * 2 + 1, none⟩ = some es[k].2.1 := by
  obtain ⟨hl, o', c', hv, h1, h2, h3, h4⟩ := h
  cases hv
  cases o with
  | none => have := h3 rfl; omega
  | some a =>
    obtain ⟨b, off, sp⟩ := a
    obtain ⟨hs, hc⟩ := h4 _ rfl
    simp only at hs hc
    subst hs
    have h0 := hc (k * 2 + 0) (iv es[k].1) (by unfold teCells; rw [flat_get _ 2 (fun _ => rfl) es k 0 hk (by omega)]; rfl)
    have h1 := hc (k * 2 + 1) es[k].2.1 (by unfold teCells; rw [flat_get _ 2 (fun _ => rfl) es k 1 hk (by omega)]; rfl)
    rw [Nat.add_zero] at h0
    rw [← Nat.add_assoc] at h1
    exact ⟨b, off, rfl, World.block_lt_of_cell? w _ h0, h0, h1⟩

theorem idxT (l : List TE) (v : Value) (fid : Nat) (fst caps : Array Value) (p : Nat → Bool) (I : Nat → World → Prop) (w : World) (eg : ∀ args w, (callFunc fid args).run Try.prog w = .ok (.enter fid args) w)
    (hsl : ∀ k W, I k W → TEAt W v l)
    (hcall : ∀ k (hk : k < l.length) W, (∀ j, j < k → p j = false) → I k W → Calls Try.prog fid (fst.push (tev l[k]) ++ caps) W (fun e W' => e = .returned (.bool (p k)) ∧ I (k + 1) W')) (h0 : I 0 w) :
    Calls Try.prog 137 #[v, .func (.func fid) fst caps] w (IdxPost l.length p I (fun k => iv k) (iv (-1))) := by
  have hlen := (hsl 0 w h0).len
  obtain ⟨o, c, rfl⟩ := (hsl 0 w h0).open
  have HC := Lib.hid hcall
  have HS := Lib.hid hsl
  clear hcall hsl
  go_enter Try.func137, Try.ntmps137
  go_wp2
  go_loopw [4, 5, 8] (fun _ _ i wr => ∃ k : Nat, k ≤ l.length ∧ i = .int .i64 k ∧ (∀ j, j < k → p j = false) ∧ I k wr) (fun _ _ i _ => l.length - (intOf i).toNat)
  case atStart => exact ⟨0, Nat.zero_le _, rfl, fun j hj => by omega, h0⟩
  case round =>
    obtain ⟨k, hk, rfl, hno, hI⟩ := hrel
    by_cases hlt : k < l.length
    · obtain ⟨b, off, rfl, hb, hc0, hc1⟩ := TEAt.cell (HS.out k wr hI) hlt
      have hC := HC.out k hlt wr hno hI
      have HN := Lib.hid hno
      clear hno
      go_wp2_with fail
      refine hC.mono ?_
      rintro e W1 ⟨rfl, hI1⟩
      have HI := Lib.hid hI1
      clear hI1 hI hC
      cases hp : p k
      · go_wp2_with fail
        go_roundw
        case rel => exact ⟨k + 1, by omega, by go_num, fun j hj => (by by_cases e : j = k; (subst e; exact hp); exact HN.out j (by omega)), HI.out⟩
        case measure => simp [intOf]; omega
      · go_wp2_with fail
        go_returns
        exact ⟨k, by omega, HN.out, .inl ⟨hlt, hp, by simp, HI.out⟩⟩
    · have hkl : k = l.length := by omega
      have HN := Lib.hid hno
      clear hno
      go_wp2_with fail
      go_returns
      exact ⟨k, by omega, HN.out, .inr ⟨hkl, by simp, by subst hkl; exact hI⟩⟩

theorem contT (l : List TE) (v : Value) (fid : Nat) (fst caps : Array Value) (p : Nat → Bool) (I : Nat → World → Prop) (w : World) (eg : ∀ args w, (callFunc fid args).run Try.prog w = .ok (.enter fid args) w)
    (hsl : ∀ k W, I k W → TEAt W v l)
    (hcall : ∀ k (hk : k < l.length) W, (∀ j, j < k → p j = false) → I k W → Calls Try.prog fid (fst.push (tev l[k]) ++ caps) W (fun e W' => e = .returned (.bool (p k)) ∧ I (k + 1) W')) (h0 : I 0 w) :
    Calls Try.prog 132 #[v, .func (.func fid) fst caps] w (IdxPost l.length p I (fun _ => .bool true) (.bool false)) := by
  have HI := Lib.hid (idxT l v fid fst caps p I w eg hsl hcall h0)
  have hlen := (hsl 0 w h0).len
  clear hsl hcall h0 eg
  go_enter Try.func132, Try.ntmps132
  go_wp2_with fail
  refine HI.out.mono ?_
  clear HI
  rintro e W' ⟨k, hk, hno, ⟨hlt, hp, rfl, hI⟩ | ⟨hkl, rfl, hI⟩⟩
  · have HN := Lib.hid (And.intro hno (And.intro hp hI))
    clear hno hp hI
    go_wp2_with fail
    go_returns
    exact ⟨k, hk, HN.out.1, .inl ⟨hlt, HN.out.2.1, by simp, HN.out.2.2⟩⟩
  · have HN := Lib.hid (And.intro hno (And.intro hkl hI))
    clear hno hkl hI
    go_wp2_with fail
    go_returns
    exact ⟨k, hk, HN.out.1, .inr ⟨HN.out.2.1, by simp, HN.out.2.1 ▸ HN.out.2.2⟩⟩

theorem all1T (x : TE) (bx fid : Nat) (fst caps : Array Value) (b : Bool) (W : World) (R : World → Prop) (eg : ∀ args w, (callFunc fid args).run Try.prog w = .ok (.enter fid args) w)
    (hbx : W.cell? ⟨bx, 0, none⟩ = some (.func (.func fid) fst caps))
    (hcall : Calls Try.prog fid (fst.push (tev x) ++ caps) (W.alloc (.cells #[iv x.1, x.2.1] 71)) (fun e W' => e = .returned (.bool b) ∧ R W')) :
    Calls Try.prog 133 #[tev x, .pointer (some ⟨bx, 0, none⟩)] W (fun e W' => e = .returned (.bool !b) ∧ R W') := by
  have hlt := World.block_lt_of_cell? W _ hbx
  have HC := Lib.hid hcall
  clear hcall
  go_enter Try.func133, Try.ntmps133
  go_wp2_with fail
  refine HC.out.mono ?_
  rintro e W' ⟨rfl, hR⟩
  have HR := Lib.hid hR
  clear hR
  go_wp2_with fail
  go_returns
  exact ⟨by simp, HR.out⟩

theorem allT (l : List TE) (v : Value) (fid : Nat) (fst caps : Array Value) (p : Nat → Bool) (I : Nat → World → Prop) (w : World) (eg : ∀ args w, (callFunc fid args).run Try.prog w = .ok (.enter fid args) w)
    (hsl : ∀ k W, I k W → TEAt W v l) (hal : ∀ k W o, I k W → I k (W.alloc o))
    (hcall : ∀ k (hk : k < l.length) W, (∀ j, j < k → p j = true) → I k W → Calls Try.prog fid (fst.push (tev l[k]) ++ caps) W (fun e W' => e = .returned (.bool (p k)) ∧ I (k + 1) W' ∧ FromOn w.heap.size W W')) (h0 : I 0 w) :
    Calls Try.prog 118 #[v, .func (.func fid) fst caps] w (IdxPost l.length (fun k => !p k) I (fun _ => .bool false) (.bool true)) := by
  have HI := Lib.hid (contT l v 133 #[] #[.pointer (some ⟨w.heap.size, 0, none⟩)] (fun k => !p k)
    (fun k W => I k W ∧ W.heap[w.heap.size]? = some (.cells #[.func (.func fid) fst caps] 125 (0, 0))) (w.alloc (.cells #[.func (.func fid) fst caps] 125))
    (enters_of Try.func133 (by kernel_rfl) rfl) (fun k W h => hsl k W h.1)
    (fun k hk W hno h => by
      have hlt : w.heap.size < W.heap.size := (Array.getElem?_eq_some_iff.1 h.2).1
      refine (all1T l[k] w.heap.size fid fst caps (p k) W (fun W' => I (k + 1) W' ∧ W'.heap[w.heap.size]? = some (.cells #[.func (.func fid) fst caps] 125 (0, 0))) eg (cell_of_block0 h.2) ?_)
      refine (hcall k hk _ (fun j hj => by simpa using hno j hj) (by first | exact hal _ _ _ h.1 | exact h.1)).mono ?_
      rintro e W' ⟨rfl, h1, h2⟩
      refine ⟨rfl, h1, (h2.block _ (Nat.le_refl _) (by first | exact hlt | (simp; omega))).trans (by first | exact h.2 | exact (Below.heap_alloc _ _ _ hlt).trans h.2)⟩)
    ⟨hal _ _ _ h0, heap_alloc_new w _⟩)
  have hlen := (hsl 0 w h0).len
  clear hsl hcall h0 eg hal
  go_enter Try.func118, Try.ntmps118
  go_wp2_with fail
  refine HI.out.mono ?_
  clear HI
  rintro e W' ⟨k, hk, hno, ⟨hlt, hp, rfl, hI, _⟩ | ⟨hkl, rfl, hI, _⟩⟩
  · have HN := Lib.hid (And.intro hno (And.intro hp hI))
    clear hno hp hI
    go_wp2_with fail
    go_returns
    exact ⟨k, hk, HN.out.1, .inl ⟨hlt, HN.out.2.1, by simp, HN.out.2.2⟩⟩
  · have HN := Lib.hid (And.intro hno (And.intro hkl hI))
    clear hno hkl hI
    go_wp2_with fail
    go_returns
    exact ⟨k, hk, HN.out.1, .inr ⟨HN.out.2.1, by simp, HN.out.2.1 ▸ HN.out.2.2⟩⟩

theorem safe1_any (h : HeapD) (hS : Sound h) (oa ob oc : Option Addr) (na ca nb cb nc cc : Nat) (wb mb : Nat) (e : TE) (turns : List Int) (tv : Value) (bw bt : Nat) (W : World) (hb1 : W.heap[bw]? = some (.cells #[.pointer (some ⟨wb, 0, none⟩)] 106 (0, 0))) (hb2 : W.heap[bt]? = some (.cells #[tv] 25 (0, 0)))
    (hwk : WorkAt W wb mb h (.slice oa na ca) (.slice ob nb cb) (.slice oc nc cc)) (he : IntsAt W e.2.1 e.2.2) (htv : IntsAt W tv turns) (hlen : e.2.2.length ≤ 10) (h0 : 0 ≤ e.1) (h1 : e.1 ≤ 500) (hwet : ∀ x ∈ e.2.2, 0 ≤ x ∧ x ≤ 20) :
    Calls Try.prog 119 #[tev e, .pointer (some ⟨bw, 0, none⟩), .pointer (some ⟨bt, 0, none⟩)] W (fun x W' => x = .returned (.bool (keptL h (heats h (e.1, e.2.2) turns))) ∧ Cache W' mb h.cool ∧ Ext [mb] W W') := by
  obtain ⟨ot, ct, rfl⟩ := htv.open
  obtain ⟨start, ws, wet⟩ := e
  replace he : IntsAt W ws wet := he
  simp only at hlen h0 h1 hwet
  obtain ⟨ows, cws, rfl⟩ := SlAt.open he
  have hl0 := hS.last0
  have hl9 := hS.last9
  have c1 := cell_of_block0 hb1
  have c2 := cell_of_block0 hb2
  have s1 := World.block_lt_of_cell? W _ c1
  have s2 := World.block_lt_of_cell? W _ c2
  have c3 := hwk.cell
  have s3 := hwk.lt
  have hn1 := not_mb hwk.cache hb1
  have hn2 := not_mb hwk.cache hb2
  have hn3 := not_mb hwk.cache hwk.cells
  have hmb := hwk.cache.lt
  obtain ⟨ys, hy⟩ : ∃ ys, heats h (start, wet) turns = ys := ⟨_, rfl⟩
  have hy10 : ys.length = 10 := by rw [← hy]; exact heatsTo_length _ _ _ _ _ _
  have hpl := fun (W' : World) (hb : Below W.heap.size W W') => play_any h _ _ _ wb mb start wet turns _ _ W' (hwk.below hb (Nat.le_refl _)) (he.below hb (Nat.le_refl _)) (htv.below hb (Nat.le_refl _)) hlen hS.size0 hS.size1 hS.cool0 hS.cool1 h0 h1 hwet
  obtain ⟨q, hq⟩ : ∃ q, keptL h ys = q := ⟨_, rfl⟩
  have hk := fun (W' : World) => kept_any h oa ob oc na ca nb cb nc cc ys hy10 W' hl0 hl9
  show Calls Try.prog 119 #[.agg #[iv start, .slice ows wet.length cws], .pointer (some ⟨bw, 0, none⟩), .pointer (some ⟨bt, 0, none⟩)] W (fun x W' => x = .returned (.bool (keptL h (heats h (start, wet) turns))) ∧ Cache W' mb h.cool ∧ Ext [mb] W W')
  rw [hy] at hpl ⊢
  rw [hq] at hk ⊢
  have HPL := Lib.hid hpl
  have HK := Lib.hid hk
  clear hpl hk hb1 hb2 hwk he htv hwet hy hq hS
  go_enter Try.func119, Try.ntmps119
  go_wp2_with fail
  obtain ⟨W1, hW1⟩ : ∃ W1, W.alloc (.cells #[iv start, .slice ows wet.length cws] 71) = W1 := ⟨_, rfl⟩
  have hB1 : Below W.heap.size W W1 := by rw [← hW1]; exact bgoAlloc (Below.refl _ _) _
  obtain ⟨hc, hf⟩ := bcell hB1
  have hz1 : W1.heap.size = W.heap.size + 1 := by rw [← hW1]; simp
  have hbt : W1.heap[W.heap.size]? = some (.cells #[iv start, .slice ows wet.length cws] 71 (0, 0)) := by rw [← hW1]; exact heap_new0 _ _
  have hgt : ∀ i, W1.cell? ⟨W.heap.size, i, none⟩ = (#[iv start, .slice ows wet.length cws] : Array Value)[i]? := fun i => by
    simp only [World.cell?, hbt]; rfl
  have z0 : W.heap.size < W1.heap.size := by omega
  have z1 : bw < W1.heap.size := by omega
  have z2 : bt < W1.heap.size := by omega
  have z3 : wb < W1.heap.size := by omega
  have hn4 : ¬ W.heap.size = mb := by omega
  rw [hW1]
  have HB1 := Lib.hid hB1
  clear hW1 hB1 hbt
  refine wp_region_rg 8 [mb] (some 7) [(7, ⟨fun _ v => v = .agg (intCells ys).toArray, fun _ _ W => Cache W mb h.cool⟩)] (by kernel_rfl) (by kernel_rfl) ?_
  simp only [List.take_succ_cons, List.take_zero, List.drop_succ_cons, List.drop_zero]
  repeat (refine tree_det (by rfl) _ (by rfl) (fun W hW => by go_simp; (try simp (disch := omega) only [IntWalk.i64_in, Int.tdiv_eq_ediv_of_nonneg]); try rfl) ?_; simp only [Act.put, List.setIfInBounds_toArray, List.set_cons_succ, List.set_cons_zero])
  refine tree_some _ (by rfl) (by rfl) ⟨_, rfl⟩ (fun W5 hE hF => ?_) (fun v Wa Wb hc hE => ?_) (fun v hv => ?_)
  · have hE' : Ext [] W1 W5 := hE
    refine does_enter 80 #[.pointer (some ⟨wb, 0, none⟩), .agg #[iv start, .slice ows wet.length cws], .slice ot turns.length ct] (by go_simp; try rfl) ?_
    refine (HPL.out W5 (bgo HB1.out hE'.below)).mono ?_
    rintro e W6 ⟨rfl, hcc, hE2⟩
    exact ⟨_, rfl, rfl, hcc, hE2⟩
  · have hE' : Ext [] Wa Wb := hE
    exact Cache.kept hc (hE'.block mb (Cache.lt hc) (by simp))
  obtain rfl : v = .agg (intCells ys).toArray := hv
  simp only [Act.put, List.setIfInBounds_toArray, List.set_cons_succ, List.set_cons_zero]
  intro W5 hE hF
  have hE' : Ext [mb] W1 W5 := hE
  have hcc : Cache W5 mb h.cool := hF _ (List.Mem.head _)
  have HR := Lib.hid (And.intro hcc ((Ext.of_below HB1.out).trans hE'))
  clear hE hF hE' hcc hgt
  go_wp2_with fail
  refine (HK.out W5).mono ?_
  rintro e W6 ⟨rfl, hb6⟩
  have HB6 := Lib.hid hb6
  clear hb6 hc hf
  go_wp2_with fail
  go_returns
  exact ⟨by simp, HR.out.1.kept (HB6.out.block mb HR.out.1.lt), HR.out.2.bel HB6.out⟩

theorem safe_any (h : HeapD) (hS : Sound h) (a b c : Value) (wb mb : Nat) (es : List TE) (ev : Value) (turns : List Int) (tv : Value) (w : World) (hwk : WorkAt w wb mb h a b c) (h1 : PairsAt w a h.wet) (h2 : IntsAt w b h.turns) (h3 : TriplesAt w c h.readings)
    (hev : TEAt w ev es) (hes : ∀ e ∈ es, IntsAt w e.2.1 e.2.2 ∧ e.2.2.length ≤ 10 ∧ (0 ≤ e.1 ∧ e.1 ≤ 500) ∧ ∀ x ∈ e.2.2, 0 ≤ x ∧ x ≤ 20) (htv : IntsAt w tv turns) :
    Calls Try.prog 92 #[.pointer (some ⟨wb, 0, none⟩), ev, tv] w (fun x w' => x = .returned (.bool (es.all fun e => keptL h (heats h (e.1, e.2.2) turns))) ∧ Cache w' mb h.cool ∧ Ext [mb] w w') := by
  obtain ⟨oa, ca, rfl⟩ := h1.open
  obtain ⟨ob, cb, rfl⟩ := h2.open
  obtain ⟨oc, cc, rfl⟩ := h3.open
  obtain ⟨ot, ct, rfl⟩ := htv.open
  obtain ⟨oe, ce, rfl⟩ := TEAt.open hev
  have hmb := hwk.cache.lt
  obtain ⟨q, hq⟩ : ∃ q, (es.all fun e => keptL h (heats h (e.1, e.2.2) turns)) = q := ⟨_, rfl⟩
  have hall := fun (w2 : World) (hB : Below w.heap.size w w2) (hb0 : w2.heap[w.heap.size]? = some (.cells #[.pointer (some ⟨wb, 0, none⟩)] 106 (0, 0))) (hb1 : w2.heap[w.heap.size + 1]? = some (.cells #[.slice ot turns.length ct] 25 (0, 0))) =>
    allT es (.slice oe es.length ce) 119 #[] #[.pointer (some ⟨w.heap.size, 0, none⟩), .pointer (some ⟨w.heap.size + 1, 0, none⟩)] (fun k => keptL h (heats h ((es.getD k (0, undef, [])).1, (es.getD k (0, undef, [])).2.2) turns))
      (fun _ W => (Ext [mb] w W ∧ Cache W mb h.cool) ∧ W.heap[w.heap.size]? = some (.cells #[.pointer (some ⟨wb, 0, none⟩)] 106 (0, 0)) ∧ W.heap[w.heap.size + 1]? = some (.cells #[.slice ot turns.length ct] 25 (0, 0))) w2 (enters_of Try.func119 (by kernel_rfl) rfl)
      (fun k W hI => SlAt.ext_other hev hI.1.1 (fun x hx o => by
        obtain rfl : x = mb := by simpa using hx
        exact hwk.cache.noCell o))
      (fun k W o hI => ⟨⟨hI.1.1.alloc o, hI.1.2.kept (Below.heap_alloc _ _ _ hI.1.2.lt)⟩, (Below.heap_alloc _ _ _ (Array.getElem?_eq_some_iff.1 hI.2.1).1).trans hI.2.1, (Below.heap_alloc _ _ _ (Array.getElem?_eq_some_iff.1 hI.2.2).1).trans hI.2.2⟩)
      (fun k hk W _ hI => by
        have hm : ∀ x ∈ [mb], ∀ o, w.cell? ⟨x, o, none⟩ = none := fun x hx o => by
          obtain rfl : x = mb := by simpa using hx
          exact hwk.cache.noCell o
        obtain ⟨k1, k2, k3, k4⟩ := hes es[k] (List.getElem_mem hk)
        have hgd : es.getD k (0, undef, []) = es[k] := by simp [List.getD, hk]
        rw [hgd]
        refine (safe1_any h hS oa ob oc _ _ _ _ _ _ wb mb es[k] turns (.slice ot turns.length ct) w.heap.size (w.heap.size + 1) W hI.2.1 hI.2.2 (hwk.ext hI.1.1 hI.1.2) (k1.ext_other hI.1.1 hm) (htv.ext_other hI.1.1 hm) k2 k3.1 k3.2 k4).mono ?_
        rintro e W' ⟨rfl, hc, hE⟩
        refine ⟨rfl, ⟨⟨hI.1.1.trans hE, hc⟩, (hE.block _ (Array.getElem?_eq_some_iff.1 hI.2.1).1 (by simp; omega)).trans hI.2.1, (hE.block _ (Array.getElem?_eq_some_iff.1 hI.2.2).1 (by simp; omega)).trans hI.2.2⟩, FromOn.of_ext hE (fun x hx => ?_)⟩
        have := hB.size
        simp at hx
        omega)
      ⟨⟨Ext.of_below hB, hwk.cache.kept (hB.block mb hmb)⟩, hb0, hb1⟩
  have HALL := Lib.hid hall
  have HQ : Hid (((List.range es.length).all fun k => keptL h (heats h ((es.getD k (0, undef, [])).1, (es.getD k (0, undef, [])).2.2) turns)) = q) := Lib.hid (by rw [← hq]; exact range_all es (fun e => keptL h (heats h (e.1, e.2.2) turns)) (0, undef, []))
  rw [hq]
  have hlen := TEAt.len hev
  clear hall hq hes hev hwk h1 h2 h3 htv
  go_enter Try.func92, Try.ntmps92
  go_wp2_with fail
  refine (HALL.out _ (by repeat (first | exact Below.refl _ _ | assumption | refine bgo ?_ (by assumption) | refine bgoAlloc ?_ _ | refine bgoDrew ?_ | refine bgoSet ?_ (by simp; omega) _)) ((Below.heap_alloc _ _ _ (by simp)).trans (heap_new0 _ _)) (heap_new1 _ _ _)).mono ?_
  intro e W' hpost
  obtain ⟨rfl, k, _, hI⟩ := hpost.all
  rw [all_of_any, HQ.out]
  have HI := Lib.hid hI
  clear hI hpost
  go_wp2_with fail
  go_returns
  exact ⟨by simp, HI.out.1.2, HI.out.1.1⟩

end Go.Proofs.Ytoibfafmnaooaaa

namespace Go.Proofs.Ytoibfafmnaooaaa
open Go.RowKit Go.RG Go.SL Go.Shelf Cou
set_option maxHeartbeats 400000
set_option maxRecDepth 10000
attribute [local go_sem] Oper.semAt_some

theorem tTruths : SliceT Try.prog 135 71 (.agg #[iv 0, .slice none 0 0]) 2 32 := ⟨Try.underlying135, by kernel_rfl, rfl, by omega⟩

def safeL (h : HeapD) (turns : List Int) : Bool := (truthsL h []).all fun t => keptL h (heats h t turns)
def fewS (h : HeapD) : Option (List Int) := shortL (h.last + 1).toNat (safeL h)
def fewErr (h : HeapD) : Int := if askErr h [] ≠ 0 then askErr h [] else if (fewS h).isSome then 0 else 10
def fewL (h : HeapD) : List Int := if askErr h [] ≠ 0 then [] else (fewS h).getD []

/-- What Fewest has gathered: its own blocks. -/
structure Few (w : World) (wb : Nat) (es : List TE) (Ms : List Nat) (W : World) : Prop where
  b0 : W.heap[w.heap.size]? = some (.cells #[.pointer (some ⟨wb, 0, none⟩)] 106 (0, 0))
  out : ∃ v, W.heap[w.heap.size + 1]? = some (.cells #[v] 135 (0, 0)) ∧ W.ownsRow (w.heap.size + 6) 71 2 v es.length (teCells es) ∧ (∀ g, v.ownBlock = some g → g ∉ Ms ∧ g < W.heap.size) ∧
    ∀ e ∈ es, W.ownsRow (w.heap.size + 6) 3 1 e.2.1 e.2.2.length (intCells e.2.2) ∧ ∀ g, e.2.1.ownBlock = some g → (g ∉ Ms ∧ g < W.heap.size) ∧ v.ownBlock ≠ some g
  b3 : W.heap[w.heap.size + 1 + 1]? = some (.cells #[.pointer (some ⟨wb, 0, none⟩)] 106 (0, 0))
  b4 : W.heap[w.heap.size + 1 + 1 + 1]? = some (.cells #[.slice none 0 0] 25 (0, 0))

theorem Few.kept {w : World} {wb : Nat} {es : List TE} {Ms Ms' : List Nat} {W W' : World} (h : Few w wb es Ms W) (hs : W.heap.size ≤ W'.heap.size) (hk : ∀ b, w.heap.size ≤ b → b < w.heap.size + 4 → W'.heap[b]? = W.heap[b]?)
    (ho : ∀ g, w.heap.size + 6 ≤ g → g < W.heap.size → g ∉ Ms → W'.heap[g]? = W.heap[g]?) (hM : ∀ m ∈ Ms', m ∈ Ms ∨ (W.heap.size ≤ m ∧ m < W'.heap.size)) : Few w wb es Ms' W' := by
  obtain ⟨v, h1, h2, h3, h4⟩ := h.out
  have hnM : ∀ g, (g ∉ Ms ∧ g < W.heap.size) → g ∉ Ms' ∧ g < W'.heap.size := fun g ⟨hg1, hg2⟩ => ⟨fun hm => by
    rcases hM g hm with h5 | h5
    · exact hg1 h5
    · omega, by omega⟩
  refine ⟨(hk _ (by omega) (by omega)).trans h.b0, ⟨v, (hk _ (by omega) (by omega)).trans h1, owns_keep h2 fun g hg => ho g (owns_ge h2 g hg).1 (owns_ge h2 g hg).2 (h3 g hg).1, fun g hg => hnM g (h3 g hg), fun e he => ?_⟩,
    (hk _ (by omega) (by omega)).trans h.b3, (hk _ (by omega) (by omega)).trans h.b4⟩
  obtain ⟨k1, k2⟩ := h4 e he
  exact ⟨owns_keep k1 fun g hg => ho g (owns_ge k1 g hg).1 (owns_ge k1 g hg).2 (k2 g hg).1.1, fun g hg => ⟨hnM g (k2 g hg).1, (k2 g hg).2⟩⟩

/-- One more truth: W7 the world before, W8 with the clone (own block from W7 on) and the slice of one element, W9 grown, then the cell of the slice is written. -/
theorem few_push {w W7 W8 W9 : World} {wb mb : Nat} {cool : Int} {v v' : Value} {es : List TE} {e : TE} {Os Ms : List Nat} (hF : Fr w mb cool Os Ms W7) (hP : Few w wb es Ms W7)
    (hv1 : W7.heap[w.heap.size + 1]? = some (.cells #[v] 135 (0, 0))) (hv3 : ∀ g, v.ownBlock = some g → (w.heap.size + 6 ≤ g ∧ g < W7.heap.size) ∧ g ∉ Ms)
    (hE : Ext [] W7 W8) (hG : W8.grownBy W9 v.ownBlock) (hN : v'.ownBlock = v.ownBlock ∨ v'.ownBlock = some W8.heap.size) (hO : W9.ownsRow (w.heap.size + 6) 71 2 v' (es.length + 1) (teCells es ++ [iv e.1, e.2.1]))
    (hC : W8.ownsRow W7.heap.size 3 1 e.2.1 e.2.2.length (intCells e.2.2)) (hmb : mb < w.heap.size) (hs : w.heap.size + 6 ≤ W7.heap.size) :
    (Fr w mb cool Os Ms (W9.setCell ⟨w.heap.size + 1, 0, none⟩ v') ∧ Few w wb (es ++ [e]) Ms (W9.setCell ⟨w.heap.size + 1, 0, none⟩ v')) ∧
      (∀ b, b < W7.heap.size → v.ownBlock ≠ some b → b ≠ w.heap.size + 1 → (W9.setCell ⟨w.heap.size + 1, 0, none⟩ v').heap[b]? = W7.heap[b]?) ∧ W7.heap.size ≤ (W9.setCell ⟨w.heap.size + 1, 0, none⟩ v').heap.size := by
  have h1 := hE.size
  have h2 := hG.size
  have hk : ∀ b, b < W7.heap.size → v.ownBlock ≠ some b → W9.heap[b]? = W7.heap[b]? := fun b hb hn =>
    (hG.block b (by omega) (fun e => hn e.symm)).trans (hE.block b hb (by simp))
  have hks : ∀ b, b < W7.heap.size → v.ownBlock ≠ some b → b ≠ w.heap.size + 1 → (W9.setCell ⟨w.heap.size + 1, 0, none⟩ v').heap[b]? = W7.heap[b]? := fun b hb hn hne =>
    (Below.heap_setCell _ _ _ _ hne).trans (hk b hb hn)
  have hlow : ∀ b, b < w.heap.size + 6 → v.ownBlock ≠ some b := fun b hb e => by have := (hv3 b e).1.1; omega
  have hsz : W7.heap.size ≤ (W9.setCell ⟨w.heap.size + 1, 0, none⟩ v').heap.size := by simp [World.setCell]; omega
  have hb := owns_ge hO
  have hcb := owns_ge hC
  have hnv' : ∀ g, v'.ownBlock = some g → g ∉ Ms ∧ g < W9.heap.size := fun g hg => ⟨fun hm => by
    rcases hN with hN | hN
    · exact (hv3 g (by rw [← hN, hg])).2 hm
    · rw [hg] at hN
      injection hN with hN
      have := hF.bnd g hm
      omega, (hb g hg).2⟩
  refine ⟨⟨hF.own ⟨hG.os.trans (hE.os.trans hF.ext.os), hG.tape.trans (hE.tape.trans hF.ext.tape), hG.output.trans (hE.output.trans hF.ext.output), by have := hF.ext.size; omega, fun k hk' hm => (hks k (by have := hF.ext.size; omega) (hlow k (by omega)) (by omega)).trans (hF.ext.block k hk' hm)⟩ hsz (hF.cache.kept (hks mb (by omega) (hlow mb (by omega)) (by omega))), ?_⟩, hks, hsz⟩
  obtain ⟨vv, q1, q2, q3, q4⟩ := hP.out
  have hvv : vv = v := by
    rw [hv1] at q1
    simpa using q1.symm
  subst hvv
  refine ⟨(hks _ (by omega) (hlow _ (by omega)) (by omega)).trans hP.b0, ⟨v', ?_, ?_, fun g hg => ⟨(hnv' g hg).1, by have := (hnv' g hg).2; simpa [World.setCell] using this⟩, fun x hx => ?_⟩, (hks _ (by omega) (hlow _ (by omega)) (by omega)).trans hP.b3, (hks _ (by omega) (hlow _ (by omega)) (by omega)).trans hP.b4⟩
  · exact set_block ((hk _ (by omega) (hlow _ (by omega))).trans hv1) _
  · rw [List.length_append]
    have : teCells (es ++ [e]) = teCells es ++ [iv e.1, e.2.1] := by simp [teCells]
    rw [this]
    exact owns_keep hO fun g hg => Below.heap_setCell _ _ _ _ (by have := (hb g hg).1; show g ≠ w.heap.size + 1; omega)
  · rcases List.mem_append.1 hx with hx | hx
    · obtain ⟨k1, k2⟩ := q4 x hx
      have kb := owns_ge k1
      refine ⟨owns_keep k1 fun g hg => hks g (kb g hg).2 (k2 g hg).2 (by have := (kb g hg).1; omega), fun g hg => ⟨⟨(k2 g hg).1.1, by have := (kb g hg).2; omega⟩, fun e1 => ?_⟩⟩
      rcases hN with hN | hN
      · exact (k2 g hg).2 (by rw [← hN, e1])
      · rw [e1] at hN
        injection hN with hN
        have := (kb g hg).2
        omega
    · obtain rfl : x = e := by simpa using hx
      refine ⟨owns_base (owns_keep hC fun g hg => (Below.heap_setCell _ _ _ _ (by have := (hcb g hg).1; show g ≠ w.heap.size + 1; omega)).trans (hG.block g (hcb g hg).2 (fun e1 => by have := (hv3 g e1.symm).1.2; have := (hcb g hg).1; omega))) (by omega), fun g hg => ⟨⟨fun hm => ?_, ?_⟩, fun e1 => ?_⟩⟩
      · have := hF.bnd g hm; have := (hcb g hg).1; omega
      · have := (hcb g hg).2; simp [World.setCell]; omega
      · rcases hN with hN | hN
        · have := (hv3 g (by rw [← hN, e1])).1.2; have := (hcb g hg).1; omega
        · rw [e1] at hN
          injection hN with hN
          have := (hcb g hg).2; omega

end Go.Proofs.Ytoibfafmnaooaaa

namespace Go.Proofs.Ytoibfafmnaooaaa
open Go.RowKit Go.RG Go.SL Go.Shelf Cou
set_option maxHeartbeats 400000
set_option maxRecDepth 10000
attribute [local go_sem] Oper.semAt_some

theorem fewest1_any (h : HeapD) (hS : Sound h) (a b c : Value) (wb mb : Nat) (es : List TE) (o : Option Addr) (cp : Nat) (turns : List Int) (tv : Value) (bw bt : Nat) (W : World) (hb1 : W.heap[bw]? = some (.cells #[.pointer (some ⟨wb, 0, none⟩)] 106 (0, 0))) (hb2 : W.heap[bt]? = some (.cells #[.slice o es.length cp] 135 (0, 0)))
    (hwk : WorkAt W wb mb h a b c) (h1 : PairsAt W a h.wet) (h2 : IntsAt W b h.turns) (h3 : TriplesAt W c h.readings) (hev : TEAt W (.slice o es.length cp) es)
    (hes : ∀ e ∈ es, IntsAt W e.2.1 e.2.2 ∧ e.2.2.length ≤ 10 ∧ (0 ≤ e.1 ∧ e.1 ≤ 500) ∧ ∀ x ∈ e.2.2, 0 ≤ x ∧ x ≤ 20) (htv : IntsAt W tv turns) :
    Calls Try.prog 91 #[tv, .pointer (some ⟨bw, 0, none⟩), .pointer (some ⟨bt, 0, none⟩)] W (fun x w' => x = .returned (.bool (es.all fun e => keptL h (heats h (e.1, e.2.2) turns))) ∧ Cache w' mb h.cool ∧ Ext [mb] W w') := by
  have HSF := Lib.hid (safe_any h hS a b c wb mb es (.slice o es.length cp) turns tv W hwk h1 h2 h3 hev hes htv)
  have c1 := cell_of_block0 hb1
  have c2 := cell_of_block0 hb2
  have s1 := World.block_lt_of_cell? W _ c1
  have s2 := World.block_lt_of_cell? W _ c2
  obtain ⟨ot, ct, rfl⟩ := htv.open
  generalize (es.all fun e => keptL h (heats h (e.1, e.2.2) turns)) = q at *
  clear hb1 hb2 hwk h1 h2 h3 hev hes htv
  go_enter Try.func91, Try.ntmps91
  go_wp2_with fail
  refine HSF.out.mono ?_
  rintro e W' ⟨rfl, hc, hE⟩
  have HR := Lib.hid (And.intro hc hE)
  clear hc hE
  go_wp2_with fail
  go_returns
  exact ⟨by simp, HR.out⟩

set_option maxHeartbeats 4000000 in
theorem Fewest_any (h : HeapD) (wv tv xv' : Value) (w : World) (hw : PairsAt w wv h.wet) (ht : IntsAt w tv h.turns) (hx : TriplesAt w xv' h.readings) :
    Calls Try.prog 54 #[hv h wv tv xv'] w (fun e w' => ∃ v, e = .returned (.tuple #[v, iv (fewErr h)]) ∧ IntsAt w' v (fewL h) ∧ Below w.heap.size w w') := by
  obtain ⟨ow, cw, rfl⟩ := hw.open
  obtain ⟨ot, ct, rfl⟩ := ht.open
  obtain ⟨ox, cx, rfl⟩ := hx.open
  have HW := Lib.hid hw
  have HT := Lib.hid ht
  have HX := Lib.hid hx
  clear hw ht hx
  obtain ⟨E, hE⟩ : ∃ E, fewErr h = E := ⟨_, rfl⟩
  obtain ⟨L, hL⟩ : ∃ L, fewL h = L := ⟨_, rfl⟩
  rw [hE, hL]
  have HE := Lib.hid hE
  have HL := Lib.hid hL
  clear hE hL
  refine (callsIn_wide (n := 0)).1 ?_
  refine callsIn_of_wp_marks Try.func54 rfl trivial ?_
  simp only [Try.ntmps54, List.size_toArray, List.length_cons, List.length_nil, Nat.reduceAdd, Nat.reduceSub, Array.replicate_succ, Array.replicate_zero, List.push_toArray, List.append_toArray, List.nil_append, List.cons_append]
  gi_wp2_with fail
  refine (callsIn_wide.2 (asked_any h _ _ _ _ [] _ (HW.out.alloc _) (HT.out.alloc _) (HX.out.alloc _) (ints_nil _))).mono ?_
  rintro e w1 ⟨hb, ⟨hne, rfl⟩ | ⟨h0, wb, mb, rfl, hwb, hmb, hwk⟩⟩
  · have he : E = askErr h [] := by rw [← HE.out]; unfold fewErr; rw [if_pos hne]
    have hl : L = [] := by rw [← HL.out]; unfold fewL; rw [if_pos hne]
    subst hl
    obtain ⟨E', hE'⟩ : ∃ E', askErr h [] = E' := ⟨_, rfl⟩
    rw [hE'] at hne he ⊢
    subst he
    have HB := Lib.hid hb
    clear hb
    gi_wp2_with fail
    refine ⟨.tuple #[.slice none 0 0, iv E], by simp [results, Try.results54, go_sem], ?_⟩
    exact ⟨.slice none 0 0, by simp, ints_nil _, bgoAlloc (bgo (bgoAlloc (Below.refl _ _) _) HB.out) _⟩
  · have hS := ask_sound h0
    have hmb' : w.heap.size + 1 ≤ mb := by simpa using hmb
    have hb0 : w1.heap[w.heap.size]? = some (.cells #[.int .i64 h.last, .int .i64 h.size, .int .i64 h.cool, .int .i64 h.die, .int .i64 h.burn, .int .i64 h.start.1, .int .i64 h.start.2, .slice ow h.wet.length cw, .slice ot h.turns.length ct, .slice ox h.readings.length cx] 40 (0, 0)) := (hb.block _ (by simp)).trans (heap_new0 _ _)
    have hbw : Below w.heap.size w w1 := bgo (bgoAlloc (Below.refl _ _) _) hb
    have H1 := Lib.hid (HW.out.below hbw (Nat.le_refl _))
    have H2 := Lib.hid (HT.out.below hbw (Nat.le_refl _))
    have H3 := Lib.hid (HX.out.below hbw (Nat.le_refl _))
    have HBW := Lib.hid hbw
    have HB0 := Lib.hid hb0
    have HWK := Lib.hid hwk
    have HSS := Lib.hid hS
    have hw0 := (Array.getElem?_eq_some_iff.1 hb0).1
    have hmbw := hwk.cache.lt
    have HEL : Hid (E = (if (fewS h).isSome then 0 else 10) ∧ L = (fewS h).getD []) := Lib.hid ⟨by rw [← HE.out]; unfold fewErr; rw [if_neg (by rw [h0]; simp)], by rw [← HL.out]; unfold fewL; rw [if_neg (by rw [h0]; simp)]⟩
    clear hb hwk h0 hS hb0 hbw hwb hmb
    gi_wp2_with fail
    refine (callsIn_wide.2 (truths_any wb _ _ _ _)).mono ?_
    rintro e w1' ⟨rfl, rfl⟩
    gi_wp2_with fail
    obtain ⟨w2, hw2⟩ : ∃ w2, ((((w1.alloc (.cells #[.pointer (some ⟨wb, 0, none⟩)] 106)).alloc (.cells #[.slice none 0 0] 135)).alloc (.cells #[.pointer (some ⟨wb, 0, none⟩)] 106)).alloc (.cells #[.slice none 0 0] 25)) = w2 := ⟨_, rfl⟩
    have hB2 : Below w1.heap.size w1 w2 := by rw [← hw2]; exact (by repeat (first | exact Below.refl _ _ | assumption | refine bgo ?_ (by assumption) | refine bgoAlloc ?_ _ | refine bgoDrew ?_ | refine bgoSet ?_ (by simp; omega) _))
    have hsz2 : w2.heap.size = w1.heap.size + 4 := by rw [← hw2]; simp
    have hP2 : Few w1 wb [] [mb] w2 := by
      rw [← hw2]
      have n3 := heap_new0 (((w1.alloc (.cells #[.pointer (some ⟨wb, 0, none⟩)] 106)).alloc (.cells #[.slice none 0 0] 135)).alloc (.cells #[.pointer (some ⟨wb, 0, none⟩)] 106)) (.cells #[.slice none 0 0] 25)
      simp only [World.size_alloc] at n3
      refine ⟨?_, ⟨.slice none 0 0, ?_, ⟨rfl, .inl ⟨rfl, rfl⟩⟩, (fun g hg => by cases hg), (fun e he => by cases he)⟩, ?_, n3⟩
      · exact (Below.heap_alloc _ _ _ (by first | omega | (simp; done) | (simp; omega))).trans ((Below.heap_alloc _ _ _ (by first | omega | (simp; done) | (simp; omega))).trans ((Below.heap_alloc _ _ _ (by first | omega | (simp; done) | (simp; omega))).trans (heap_new0 _ _)))
      · exact (Below.heap_alloc _ _ _ (by first | omega | (simp; done) | (simp; omega))).trans ((Below.heap_alloc _ _ _ (by first | omega | (simp; done) | (simp; omega))).trans (heap_new1 _ _ _))
      · exact (Below.heap_alloc _ _ _ (by first | omega | (simp; done) | (simp; omega))).trans (heap_new2 _ _ _ _)
    rw [hw2]
    clear hw2
    refine wpIn_rangeC (truths_seq h HSS.out (.slice ow h.wet.length cw) (.slice ot h.turns.length ct) (.slice ox h.readings.length cx) (.slice none 0 0) [] wb mb (w1.heap.size + 1 + 1) (w1.heap.size + 1 + 1 + 1)) rfl (enters_of Try.func116 (by kernel_rfl) rfl) rfl (by simp; omega)
      (fun Ms k W => Fr w1 mb h.cool [w1.heap.size, w1.heap.size + 1, w1.heap.size + 2, w1.heap.size + 3, w1.heap.size + 4, w1.heap.size + 5] Ms W ∧ ∃ es : List TE, es.map (fun e => (e.1, e.2.2)) = (truthsL h []).take k ∧ Few w1 wb es Ms W)
      (fun _ _ _ => False)
      ?hInv ?hInvx ?hI ?hIx ?hIp ?hIxp ?h0
      (fun a Ms k W1 a₁ W => ∃ (t : Int × List Int) (ob bt : Nat), (truthsL h [])[k]? = some t ∧ a₁ = { tmps := (a.tmps.setIfInBounds 20 (.agg #[iv t.1, .slice (some ⟨ob, 1, none⟩) t.2.length t.2.length])).setIfInBounds 7 (.pointer (some ⟨bt, 0, none⟩)), defers := [] } ∧
        (Fr w1 mb h.cool [w1.heap.size, w1.heap.size + 1, w1.heap.size + 2, w1.heap.size + 3, w1.heap.size + 4, w1.heap.size + 5] Ms W ∧ ∃ es : List TE, es.map (fun e => (e.1, e.2.2)) = (truthsL h []).take k ∧ Few w1 wb es Ms W) ∧
        (W.heap[bt]? = some (.cells #[iv t.1, .slice (some ⟨ob, 1, none⟩) t.2.length t.2.length] 71 (0, 0)) ∧ (w1.heap.size + 6 ≤ bt ∧ ob ∈ Ms ∧ ob ≠ mb) ∧ IntsAt W (.slice (some ⟨ob, 1, none⟩) t.2.length t.2.length) t.2) ∧ (∀ m ∈ Ms, m ∉ [mb] → m < W1.heap.size → W.heap[m]? = W1.heap[m]?) ∧ W1.heap.size ≤ W.heap.size)
      ?hMp ?hassign ?hbody ?hdone ?hstop
    case hInv => rintro Ms k W ⟨hF, es, hes, hP⟩; exact hF.tinv HWK.out H1.out H2.out H3.out (ints_nil w1) hP.b3 hP.b4
    case hInvx => rintro cd Ms W h; exact h.elim
    case hI =>
      rintro Ms Ms' k Wa Wb ⟨hF, es, hes, hP⟩ hE hMs hc
      exact ⟨(hF.step hE hMs hc).1, es, hes, hP.kept hE.size (fun b h1 h2 => (hF.step hE hMs hc).2 b (by simp; omega)) (fun g h1 h2 h3 => hE.block g h2 h3) hMs⟩
    case hIx => rintro cd Ms Ms' Wa Wb h; exact h.elim
    case hIp =>
      rintro Ms k W r o ⟨hF, es, hes, hP⟩ hr
      exact ⟨hF.put o (by omega) hmbw, es, hes, hP.kept (by simp) (fun b h1 h2 => World.putObj_heap_other (by omega)) (fun g h1 h2 h3 => World.putObj_heap_other (by omega)) (fun m hm => .inl hm)⟩
    case hIxp => rintro cd Ms W r o h; exact h.elim
    case h0 =>
      intro o o'
      have hB : Below w1.heap.size w1 ((w2.alloc o).alloc o') := bgoAlloc (bgoAlloc hB2 _) _
      exact ⟨⟨Ext.of_below hB, fun m hm => .inl (by simpa using hm), fun m hm => (by have := hB.size; simp at hm; omega), fun b hb => ⟨by simp at hb ⊢; omega, by simp at hb ⊢; omega⟩, HWK.out.cache.kept (hB.block mb hmbw)⟩,
        [], by simp, hP2.kept (by simp; omega) (fun b h1 h2 => (Below.heap_alloc _ _ _ (by simp; omega)).trans (Below.heap_alloc _ _ _ (by omega))) (fun g h1 h2 h3 => by omega) (fun m hm => .inl hm)⟩
    case hMp =>
      rintro Ms k W1 a₁ W o ⟨t, ob, bt, ht, ha, ⟨hF, es, hes, hP⟩, ⟨hbt, ⟨hb7, hob, hne⟩, hsl⟩, hk, hs⟩
      have hap := (hF.apart (w1.heap.size + 5) (by simp)).1
      refine ⟨t, ob, bt, ht, ha, ⟨hF.put o (by omega) hmbw, es, hes, hP.kept (by simp) (fun b h1 h2 => World.putObj_heap_other (by omega)) (fun g h1 h2 h3 => World.putObj_heap_other (by omega)) (fun m hm => .inl hm)⟩,
        ⟨(World.putObj_heap_other (by omega)).trans hbt, ⟨hb7, hob, hne⟩, hsl.kept fun b off n c hv _ => by cases hv; exact World.putObj_heap_other (fun e => hap (by rw [show w1.heap.size + 5 = ob by omega]; exact hob))⟩,
        fun m hm h0 hml => (World.putObj_heap_other (fun e => hap (by rw [show w1.heap.size + 5 = m by omega]; exact hm))).trans (hk m hm h0 hml), by simpa using hs⟩
    case hassign =>
      rintro Ms k v W hk ⟨hF, es, hes, hP⟩ ⟨ob, rfl, hsl, hob, hne⟩ hlt
      generalize ht : (truthsL h [])[k] = t at *
      have htk : (truthsL h [])[k]? = some t := by rw [List.getElem?_eq_getElem hk, ht]
      gi_wp2
      have hB : Below W.heap.size W (W.alloc (.cells #[iv t.1, .slice (some ⟨ob, 1, none⟩) t.2.length t.2.length] 71)) := bgoAlloc (Below.refl _ _) _
      have hc := hF.cache.kept (hB.block mb hF.cache.lt)
      exact ⟨⟨t, ob, W.heap.size, htk, rfl, ⟨(hF.step (Ext.of_below hB) (fun m hm => .inl hm) hc).1, es, hes, hP.kept (by simp) (fun b h1 h2 => Below.heap_alloc _ _ _ (by omega)) (fun g h1 h2 h3 => Below.heap_alloc _ _ _ (by omega)) (fun m hm => .inl hm)⟩,
        ⟨heap_new0 _ _, ⟨by omega, hob, hne⟩, hsl.alloc _⟩, fun m hm h0 hml => Below.heap_alloc _ _ _ (by omega), by simp⟩, Below.heap_alloc _ _ _ (by omega), Below.heap_alloc _ _ _ (by omega)⟩
    case hbody =>
      rintro Ms k W1 a₁ W busy hk ⟨t, ob, bt, ht, rfl, ⟨hF, es, hes, hP⟩, ⟨hbt, ⟨hb7, hob, hne⟩, hsl⟩, hkeep, hsz⟩ hrec hD
      simp only [List.setIfInBounds_toArray, List.set_cons_succ, List.set_cons_zero]
      obtain ⟨v, hv1, hv2, hv3, hv4⟩ := hP.out
      obtain ⟨vo, vc, rfl⟩ := owns_slice hv2
      have htm : t ∈ truthsL h [] := List.mem_of_getElem? ht
      obtain ⟨hl2, hs0, hrest⟩ := truth_bd HSS.out htm
      have hlast := HSS.out.last9
      have hwl := HSS.out.wetLen
      have hlk : es.length ≤ 2000 := by
        have h5 := congrArg List.length hes
        rw [List.length_map, List.length_take] at h5
        have := truthsL_len HSS.out []
        omega
      have d1 := cell_of_block0 hv1
      have d2 := frozen_of_block hv1 0
      have d3 := World.block_lt_of_cell? W _ d1
      have kt := (Array.getElem?_eq_some_iff.1 hbt).1
      have hg : ∀ i, W.cell? ⟨bt, i, none⟩ = (#[iv t.1, .slice (some ⟨ob, 1, none⟩) t.2.length t.2.length] : Array Value)[i]? := fun i => by
        simp only [World.cell?, hbt]; rfl
      have hw6 : w1.heap.size + 6 ≤ W.heap.size := by omega
      have htl : t.2.length ≤ 10 := by omega
      clear hl2
      have HT2 := Lib.hid (And.intro ht hk)
      have HF := Lib.hid hF
      have HP := Lib.hid hP
      have HES := Lib.hid hes
      have HSL := Lib.hid hsl
      have HV := Lib.hid (And.intro hv1 (And.intro hv2 hv3))
      have HK := Lib.hid (And.intro hkeep (And.intro hrec hD))
      clear hF hP hkeep hrec hD hbt hsl ht hrest htm hes hv1 hv2 hv3 hv4
      gi_wp2_with fail
      refine wpIn_region_rgR 8 [] none [(5, ⟨fun _ v => ∃ o c, v = .slice o t.2.length c, fun _ v Wx => Wx.ownsRow W.heap.size 3 1 v t.2.length (intCells t.2)⟩), (7, ⟨fun _ v => ∃ b : Nat, v = .slice (some ⟨b, 0, none⟩) 1 1, fun xs v Wx => ∃ (b : Nat) (x : Value), xs = [.agg #[iv t.1, x]] ∧ v = .slice (some ⟨b, 0, none⟩) 1 1 ∧ Wx.heap[b]? = some (.cells #[iv t.1, x] 71 (0, 0))⟩)] (by kernel_rfl) (by kernel_rfl) (by kernel_rfl) ?_
      simp only [List.take_succ_cons, List.take_zero, List.drop_succ_cons, List.drop_zero]
      repeat (refine tree_det (by rfl) _ (by rfl) (fun W hW => by go_simp; (try simp (disch := omega) only [IntWalk.i64_in, Int.tdiv_eq_ediv_of_nonneg]); try rfl) ?_; simp only [Act.put, List.setIfInBounds_toArray, List.set_cons_succ, List.set_cons_zero])
      refine tree_some _ (by rfl) (by rfl) (by exact ⟨.slice none t.2.length 0, none, 0, rfl⟩) (fun W5 hE hF => ?_) (fun v Wa Wb ho hE => owns_ext (Ms := []) ho hE (by simp)) (fun v hv => ?_)
      · have hE' : Ext [] W W5 := hE
        refine does_enter 81 #[.slice (some ⟨ob, 1, none⟩) t.2.length t.2.length] (by go_simp; try rfl) ?_
        refine (clone_any t.2 _ W5 (HSL.out.below hE'.below (Nat.le_refl _)) (by omega)).mono ?_
        rintro e W6 ⟨v, rfl, ho, hb⟩
        exact ⟨v, rfl, owns_slice ho, owns_base ho hE'.size, Ext.of_below hb⟩
      obtain ⟨o5, c5, rfl⟩ := hv
      simp only [Act.put, List.setIfInBounds_toArray, List.set_cons_succ, List.set_cons_zero]
      repeat (refine tree_det (by rfl) _ (by rfl) (fun W hW => by go_simp; (try simp (disch := omega) only [IntWalk.i64_in, Int.tdiv_eq_ediv_of_nonneg]); try rfl) ?_; simp only [Act.put, List.setIfInBounds_toArray, List.set_cons_succ, List.set_cons_zero])
      refine tree_some _ (by rfl) (by rfl) (by exact ⟨.slice (some ⟨0, 0, none⟩) 1 1, 0, rfl⟩) (fun W5 hE hF => ?_) (fun v Wa Wb ho hE => ?_) (fun v hv => ?_)
      · refine does_value (W' := W5.alloc (.cells #[iv t.1, .slice o5 t.2.length c5] 71)) (.slice (some ⟨W5.heap.size, 0, none⟩) 1 1) (by go_simp; try rfl) ⟨⟨_, rfl⟩, ⟨_, _, rfl, rfl, heap_alloc_new _ _⟩, Ext.of_below ((Below.refl _ _).alloc (Nat.le_refl _) _)⟩
      · obtain ⟨b, x, hx, hv, hc⟩ := ho
        exact ⟨b, x, hx, hv, (hE.block b (Array.getElem?_eq_some_iff.1 hc).1 (by simp)).trans hc⟩
      obtain ⟨b7, rfl⟩ := hv
      simp only [Act.put, List.setIfInBounds_toArray, List.set_cons_succ, List.set_cons_zero]
      intro W8 hE8 hF8
      have hE : Ext [] W W8 := hE8
      obtain ⟨b7', x7, hx7, hb7', hblk7⟩ := hF8 _ (List.Mem.head _)
      cases hb7'
      have hx7' : x7 = .slice o5 t.2.length c5 := by
        have h9 : [Value.agg #[iv t.1, .slice o5 t.2.length c5]] = [Value.agg #[iv t.1, x7]] := hx7
        simp at h9
        exact h9.symm
      subst hx7'
      have hcl : W8.ownsRow W.heap.size 3 1 (.slice o5 t.2.length c5) t.2.length (intCells t.2) := hF8 _ (List.Mem.tail _ (List.Mem.head _))
      obtain ⟨hc, hf⟩ := bcell hE.below
      have hz8 := hE.size
      have hown8 := owns_ext (Ms := []) HV.out.2.1 hE (by simp)
      have HE8 := Lib.hid hE
      have HOW := Lib.hid hown8
      have HCL := Lib.hid hcl
      have HB7 := Lib.hid hblk7
      clear hE hE8 hF8 hown8 hcl hblk7 hx7 hg
      gi_wp2_with (gi_at_builtin; go_loud (refine wpListIn_append (fun _ => trivial) rfl calls_round rfl _ _ tTruths rfl (w1.heap.size + 6) (.slice vo es.length vc) es.length (teCells es) rfl HOW.out (.slice (some ⟨b7, 0, none⟩) 1 1) 1 [iv t.1, .slice o5 t.2.length c5] rfl (SlAt.of_block 2 1 HB7.out rfl (by decide)) (by intro u hu; simp at hu; rcases hu with rfl | rfl <;> rfl) (by omega) (by omega) (by omega) ?_))
      intro v' W9 hown hgr hown'
      obtain ⟨o9, c9, rfl⟩ := owns_slice hown
      have HO9 := Lib.hid hown
      have HG9 := Lib.hid hgr
      have HN9 := Lib.hid hown'
      have hg7 := owns_ge HV.out.2.1
      have hkeep9 : ∀ b, b < w1.heap.size + 6 → b < W.heap.size → W9.heap[b]? = W.heap[b]? := fun b hb hb7 =>
        (hgr.block b (by omega) (fun e => by have := hg7 b e.symm; omega)).trans (HE8.out.block b hb7 (by simp))
      have hz10 : W8.heap.size ≤ W9.heap.size := hgr.size
      have e1 : W9.cell? ⟨w1.heap.size + 1, 0, none⟩ = some (.slice vo es.length vc) := cell_of_block0 ((hkeep9 _ (by omega) d3).trans HV.out.1)
      have e2 : W9.frozen? ⟨w1.heap.size + 1, 0, none⟩ = false := frozen_of_block ((hkeep9 _ (by omega) d3).trans HV.out.1) 0
      have e3 := World.block_lt_of_cell? W9 _ e1
      clear hown hgr hown' hkeep9 hc hf
      gi_wp2_with fail
      obtain ⟨⟨hF9, hP9⟩, hks, hsz9⟩ := few_push (e := (t.1, .slice o5 t.2.length c5, t.2)) HF.out HP.out HV.out.1 (fun g hg => ⟨hg7 g hg, (HV.out.2.2 g hg).1⟩) HE8.out HG9.out HN9.out HO9.out HCL.out hmbw hw6
      have hap := HF.out.apart
      refine ⟨⟨?_, ?_, fun m hm h0 hml => ?_, by omega⟩, hF9, es ++ [(t.1, .slice o5 t.2.length c5, t.2)], ?_, hP9⟩
      · refine (hks _ (hap (w1.heap.size + 5) (by simp)).2 (fun e => by have := hg7 _ e; omega) (by omega)).trans ?_
        rw [show w1.heap.size + 5 = w2.heap.size + 1 by omega]; exact HK.out.2.1
      · refine (hks _ (hap (w1.heap.size + 4) (by simp)).2 (fun e => by have := hg7 _ e; omega) (by omega)).trans ?_
        rw [← hsz2]; exact HK.out.2.2
      · exact (hks m (by omega) (fun e => (HV.out.2.2 m e).1 hm) (fun e => (hap (w1.heap.size + 1) (by simp)).1 (by rw [← e]; exact hm))).trans (HK.out.1 m hm h0 hml)
      · rw [List.map_append, HES.out, List.take_succ_eq_append_getElem HT2.out.2]
        have := HT2.out.1
        rw [List.getElem?_eq_getElem HT2.out.2] at this
        injection this with this
        rw [this]
        rfl
    case hdone =>
      rintro Ms W ⟨hF, es, hes, hP⟩ hD hlt
      rw [List.take_length] at hes
      rw [hsz2] at hD
      obtain ⟨v, hv1, hv2, hv3, hv4⟩ := hP.out
      obtain ⟨vo, vc, rfl⟩ := owns_slice hv2
      have hb0 := (hF.ext.block w.heap.size hw0 (by simp; omega)).trans HB0.out
      have hc0 : ∀ i, W.cell? ⟨w.heap.size, i, none⟩ = (#[.int .i64 h.last, .int .i64 h.size, .int .i64 h.cool, .int .i64 h.die, .int .i64 h.burn, .int .i64 h.start.1, .int .i64 h.start.2, .slice ow h.wet.length cw, .slice ot h.turns.length ct, .slice ox h.readings.length cx] : Array Value)[i]? := fun i => by
        simp only [World.cell?, hb0]; rfl
      have t0 := (Array.getElem?_eq_some_iff.1 hb0).1
      have hl0 := HSS.out.last0
      have hl9 := HSS.out.last9
      obtain ⟨n, hn⟩ : ∃ n : Nat, h.last + 1 = n := ⟨(h.last + 1).toNat, by omega⟩
      have hm : ∀ x ∈ [mb], ∀ o, W.cell? ⟨x, o, none⟩ = none := fun x hx o => by
        obtain rfl : x = mb := by simpa using hx
        exact hF.cache.noCell o
      have hmw : ∀ x ∈ [mb], ∀ o, w1.cell? ⟨x, o, none⟩ = none := fun x hx o => by
        obtain rfl : x = mb := by simpa using hx
        exact HWK.out.cache.noCell o
      have hbd : ∀ e ∈ es, e.2.2.length ≤ 10 ∧ (0 ≤ e.1 ∧ e.1 ≤ 500) ∧ ∀ x ∈ e.2.2, 0 ≤ x ∧ x ≤ 20 := fun e he => by
        have hmem : (e.1, e.2.2) ∈ truthsL h [] := by rw [← hes]; exact List.mem_map.2 ⟨e, he, rfl⟩
        obtain ⟨k1, k2, k3⟩ := truth_bd HSS.out hmem
        have := HSS.out.wetLen
        simp only at k1 k2 k3
        exact ⟨by omega, k2, k3⟩
      have hsf : ∀ l, (es.all fun e => keptL h (heats h (e.1, e.2.2) l)) = safeL h l := fun l => by
        unfold safeL
        rw [← hes, List.all_map]
        rfl
      have hsh := fun (W3 : World) (hB : Below W.heap.size W W3) => shortest_any n (by omega) (safeL h) mb h.cool W3 (hF.cache.kept (hB.block mb hF.cache.lt)) 91 #[] #[.pointer (some ⟨w1.heap.size, 0, none⟩), .pointer (some ⟨w1.heap.size + 1, 0, none⟩)] (enters_of Try.func91 (by kernel_rfl) rfl)
        (fun l v W' hE hcc hv => by
          have hEW : Ext [mb] W W' := (Ext.of_below hB).trans hE
          have hEw : Ext [mb] w1 W' := hF.ext.trans hEW
          refine (fewest1_any h HSS.out _ _ _ wb mb es vo vc l v w1.heap.size (w1.heap.size + 1) W' ((hEW.block _ (Array.getElem?_eq_some_iff.1 hP.b0).1 (by simp; omega)).trans hP.b0) ((hEW.block _ (Array.getElem?_eq_some_iff.1 hv1).1 (by simp; omega)).trans hv1)
            (HWK.out.ext hEw hcc) (H1.out.ext_other hEw hmw) (H2.out.ext_other hEw hmw) (H3.out.ext_other hEw hmw) (SlAt.ext_other (SlAt.of_owns hv2) hEW hm) (fun e he => ⟨SlAt.ext_other (SlAt.of_owns (hv4 e he).1) hEW hm, hbd e he⟩) hv).mono ?_
          rintro x W'' ⟨rfl, k1, k2⟩
          exact ⟨by rw [hsf], k1, k2⟩)
      have HSH := Lib.hid hsh
      have HF := Lib.hid hF
      have HD := Lib.hid hD
      have hn' : (h.last + 1).toNat = n := by omega
      have HFS : Hid (fewS h = shortL n (safeL h)) := Lib.hid (by unfold fewS; rw [hn'])
      clear hsh hF hP hD hv1 hv2 hv3 hv4 hb0 hbd hsf hm hmw hes hn'
      gi_wp2_with fail
      refine (callsIn_wide.2 (hours_n h _ _ _ n _ hl0 hl9 hn)).mono ?_
      rintro e W3 ⟨rfl, hb3⟩
      have HB3 := Lib.hid hb3
      clear hb3 hc0
      gi_wp2_with fail
      refine (callsIn_wide.2 (HSH.out W3 HB3.out)).mono ?_
      rintro e W4 ⟨⟨hcc, hE4⟩, hres⟩
      have hEx : Ext [mb] W W4 := (Ext.of_below HB3.out).trans hE4
      have hD4 : W4.heap[w1.heap.size + 4]? = some (.deferred (some [])) := (hEx.block _ (Array.getElem?_eq_some_iff.1 HD.out).1 (by simp; omega)).trans HD.out
      have hB4 : Below w.heap.size w W4 := below_of_ext (below_of_ext HBW.out HF.out.ext (by omega)) hEx (by omega)
      have HD4 := Lib.hid hD4
      have HB4 := Lib.hid hB4
      clear hcc hE4 hEx hD4 hB4
      rw [← HFS.out] at hres
      rcases hres with ⟨c0, sv, hfs, rfl, hiv⟩ | ⟨hnone, o', n', c', rfl⟩
      · have he0 : E = 0 := by rw [HEL.out.1, hfs]; rfl
        have hl0' : L = c0 := by rw [HEL.out.2, hfs]; rfl
        subst he0
        subst hl0'
        obtain ⟨so, sc, rfl⟩ := hiv.open
        have HIV := Lib.hid hiv
        clear hiv hfs
        gi_wp2_with fail
        refine ⟨by simp, .inl ⟨_, _, rfl, run_takeDeferred HD4.out, ?_⟩⟩
        refine ⟨.tuple #[.slice so L.length sc, iv 0], by simp [results, Try.results54, go_sem], ⟨_, rfl, ?_, below_of_ext HB4.out (ext_put W4 _ _) (by have := HBW.out.size; omega)⟩⟩
        exact SlAt.ext_other HIV.out (ext_put W4 _ _) (fun x hx o => by
          obtain rfl : x = w1.heap.size + 4 := by simpa using hx
          simp [World.cell?, HD4.out])
      · have he0 : E = 10 := by rw [HEL.out.1, hnone]; rfl
        have hl0' : L = [] := by rw [HEL.out.2, hnone]; rfl
        subst he0
        subst hl0'
        clear hnone
        gi_wp2_with fail
        refine ⟨by simp, .inl ⟨_, _, rfl, run_takeDeferred HD4.out, ?_⟩⟩
        exact ⟨.tuple #[.slice none 0 0, iv 10], by simp [results, Try.results54, go_sem], ⟨_, rfl, ints_nil _, below_of_ext HB4.out (ext_put W4 _ _) (by have := HBW.out.size; omega)⟩⟩
    case hstop => rintro cd Ms W h; exact h.elim

end Go.Proofs.Ytoibfafmnaooaaa

namespace Go.Proofs.Ytoibfafmnaooaaa
open Go.RowKit Go.RG Go.SL Go.Shelf Cou
set_option maxHeartbeats 400000
set_option maxRecDepth 10000

theorem store_vals (P : Program) {w : World} {g : Nat} {t : TypeId} {cur : Array Value} (ys : List Value) (hone : ∀ u ∈ ys, u.oneCell' = true) (hg : w.heap[g]? = some (.cells cur t (0, 0))) (hl : cur.size = ys.length) :
    ∃ w', (storeCells ⟨g, 0, none⟩ ys).run P w = .ok () w' ∧ w'.heap[g]? = some (.cells ys.toArray t (0, 0)) ∧ Ext [g] w w' := by
  have h := run_storeCells_at P g 0 t ys 0 cur w hg (by omega) hone
  refine ⟨_, h, ?_, rfl, rfl, rfl, by simp, fun k _ hm => setRow_other _ _ _ _ (by simpa using hm)⟩
  rw [setRow_heap w g cur _ t _ hg]
  simp
  omega

theorem between_any (lo hi : Int) (w : World) : Calls Try.prog 63 #[iv lo, iv hi] w (PV (rv (lo, hi)) w) := by
  go_enter Try.func63, Try.ntmps63
  go_wp2
  go_returns
  exact ⟨by simp, (by repeat (first | exact Below.refl _ _ | assumption | refine bgo ?_ (by assumption) | refine bgoAlloc ?_ _ | refine bgoDrew ?_ | refine bgoSet ?_ (by simp; omega) _))⟩

theorem to_any (r : Rng) (w : World) : Calls Try.prog 52 #[rv r] w (PV (rv r) w) := by
  go_enter Try.func52, Try.ntmps52
  go_wp2
  go_returns
  exact ⟨by simp, (by repeat (first | exact Below.refl _ _ | assumption | refine bgo ?_ (by assumption) | refine bgoAlloc ?_ _ | refine bgoDrew ?_ | refine bgoSet ?_ (by simp; omega) _))⟩

theorem list_any (l : List Int) (v : Value) (w : World) (hv : IntsAt w v l) (hlen : l.length ≤ 1000) :
    Calls Try.prog 22 #[v] w (POwn 3 1 l.length (intCells l) w) := by
  obtain ⟨o, c, rfl⟩ := hv.open
  have HV := Lib.hid hv
  clear hv
  go_enter Try.func22, Try.ntmps22
  go_wp2_with (at_builtin; refine wpList_append rfl _ _ tInts rfl w.heap.size (.slice none 0 0) 0 [] rfl ⟨rfl, .inl ⟨rfl, rfl⟩⟩ (.slice o l.length c) l.length (intCells l) rfl HV.out (one_ints _) (by omega) (by omega) (Nat.le_refl _) ?_)
  intro v' w1 hown hgrow
  obtain ⟨o1, c1, rfl⟩ := owns_slice hown
  have HO := Lib.hid hown
  have HG := Lib.hid hgrow
  clear hown hgrow
  go_wp2
  go_returns
  refine ⟨.slice o1 l.length c1, by simp, ?_, Below.grown (Below.refl _ _) HG.out (Nat.le_refl _) (fun k e => by cases e)⟩
  have := HO.out
  simpa using this

theorem ints_any (l m : List Int) (v u : Value) (w : World) (hv : IntsAt w v l) (hu : IntsAt w u m) : Calls Try.prog 30 #[v, u] w (PV (.bool (l == m)) w) := by
  obtain ⟨o, c, rfl⟩ := hv.open
  obtain ⟨o2, c2, rfl⟩ := hu.open
  have hl1 := hv.len
  have hl2 := hu.len
  obtain ⟨q, hq⟩ : ∃ q, (l == m) = q := ⟨_, rfl⟩
  rw [hq]
  have HQ := Lib.hid hq
  have HV := Lib.hid hv
  have HU := Lib.hid hu
  clear hv hu hq
  by_cases hlen : l.length = m.length
  · have hb : ((l.length : Int) != (m.length : Int)) = false := by simp [hlen]
    go_enter Try.func30, Try.ntmps30
    go_wp2_with fail
    go_loopw [5] (fun u wr => ∃ k : Nat, k ≤ l.length ∧ u = .int .i64 k ∧ Below w.heap.size w wr ∧ ∀ j, j < k → l.getD j 0 = m.getD j 0) (fun u _ => l.length - (intOf u).toNat)
    case atStart => exact ⟨0, Nat.zero_le _, rfl, Below.refl _ _, fun j hj => by omega⟩
    case round =>
      obtain ⟨k, hk, rfl, hB, hno⟩ := hrel
      by_cases hlt : k < l.length
      · have hlm : k < m.length := by omega
        obtain ⟨b, off, rfl, hb1, d1⟩ := IntsAt.cell (HV.out.below hB (Nat.le_refl _)) hlt
        obtain ⟨b', off', rfl, hb2, d2⟩ := IntsAt.cell (HU.out.below hB (Nat.le_refl _)) hlm
        have hltI : (k : Int) < l.length := by omega
        have hlmI : (k : Int) < m.length := by omega
        have g1 : l.getD k 0 = l[k] := by simp [List.getD, hlt]
        have g2 : m.getD k 0 = m[k] := by simp [List.getD, hlm]
        generalize l[k] = x at *
        generalize m[k] = y at *
        have HN := Lib.hid hno
        have HG := Lib.hid (And.intro g1 g2)
        have HB := Lib.hid hB
        clear hno g1 g2 hB
        by_cases hxy : x = y
        · have hxyb : (x != y) = false := by simpa using hxy
          go_wp2_with fail
          refine wp_region_rg 9 [] none [] (by kernel_rfl) (by kernel_rfl) ?_
          simp only [List.take_succ_cons, List.take_zero, List.drop_succ_cons, List.drop_zero]
          repeat (refine tree_det (by rfl) _ (by rfl) (fun W hW => by go_simp; (try simp (disch := omega) only [IntWalk.i64_in, Int.tdiv_eq_ediv_of_nonneg]); try rfl) ?_; simp only [Act.put, List.setIfInBounds_toArray, List.set_cons_succ, List.set_cons_zero])
          intro W hE hF
          obtain ⟨hc, hf⟩ := bcell hE.below
          have hzE := hE.size
          (try simp only [World.size_alloc] at hzE)
          have HE := Lib.hid hE
          clear hE hF
          go_wp2_with fail
          go_roundw
          case rel =>
            refine ⟨k + 1, by omega, by go_num, bgo HB.out HE.out.below, fun j hj => ?_⟩
            by_cases e : j = k
            · subst e; rw [HG.out.1, HG.out.2]; exact hxy
            · exact HN.out j (by omega)
          case measure => simp [intOf]; omega
        · have hxyb : (x != y) = true := by simpa using hxy
          have hq0 : q = false := by
            rw [← HQ.out]
            cases h : (l == m)
            · rfl
            · have := eq_of_beq h
              rw [this] at HG
              exact absurd (HG.out.1.symm.trans HG.out.2) hxy
          subst hq0
          go_wp2_with fail
          refine wp_region_rg 9 [] none [] (by kernel_rfl) (by kernel_rfl) ?_
          simp only [List.take_succ_cons, List.take_zero, List.drop_succ_cons, List.drop_zero]
          repeat (refine tree_det (by rfl) _ (by rfl) (fun W hW => by go_simp; (try simp (disch := omega) only [IntWalk.i64_in, Int.tdiv_eq_ediv_of_nonneg]); try rfl) ?_; simp only [Act.put, List.setIfInBounds_toArray, List.set_cons_succ, List.set_cons_zero])
          intro W hE hF
          obtain ⟨hc, hf⟩ := bcell hE.below
          have hzE := hE.size
          (try simp only [World.size_alloc] at hzE)
          have HE := Lib.hid hE
          clear hE hF
          go_wp2_with fail
          go_returns
          exact ⟨by simp, bgo HB.out HE.out.below⟩
      · have hkl : k = l.length := by omega
        have hq1 : q = true := by
          rw [← HQ.out]
          have : l = m := by
            apply List.ext_getElem hlen
            intro i h1 h2
            have := hno i (by omega)
            simpa [List.getD, h1, h2] using this
          rw [this]
          simp
        subst hq1
        have HB := Lib.hid hB
        clear hno hB
        go_wp2_with fail
        go_returns
        exact ⟨by simp, HB.out⟩
  · have hb : ((l.length : Int) != (m.length : Int)) = true := by simp; omega
    have hq0 : q = false := by
      rw [← HQ.out]
      cases h : (l == m)
      · rfl
      · exact absurd (congrArg List.length (eq_of_beq h)) hlen
    subst hq0
    go_enter Try.func30, Try.ntmps30
    go_wp2_with fail
    go_returns
    exact ⟨by simp, Below.refl _ _⟩

/-- The chapter's heap, with some of its readings. -/
def oneH (k : Nat) : HeapD := ⟨4, 10, 50, 20, 60, (30, 32), [(10, 12), (10, 10), (12, 12), (8, 9), (10, 10)], [], [(1, 53, 1), (3, 70, 1)].take k⟩

/-- It returns a heap; nothing that was there has turned. -/
def PHeap (h : HeapD) (w : World) (e : Ending) (w' : World) : Prop :=
  ∃ a b c, e = .returned (hv h a b c) ∧ PairsAt w' a h.wet ∧ IntsAt w' b h.turns ∧ TriplesAt w' c h.readings ∧ Below w.heap.size w w'

theorem first_any (w : World) : Calls Try.prog 62 #[] w (fun e w' => ∃ v, e = .returned (.agg #[iv 30, v]) ∧ IntsAt w' v [10, 10, 12, 8, 10] ∧ Below w.heap.size w w') := by
  go_enter Try.func62, Try.ntmps62
  go_wp2
  go_returns
  refine ⟨.slice (some ⟨w.heap.size + 1, 0, none⟩) 5 5, by simp, ?_, ?_⟩
  · exact SlAt.of_block 1 5 (heap_new1 _ _ _) rfl (by decide)
  · exact bgoAlloc (bgoAlloc (Below.refl _ _) _) _

theorem ten_other {W : World} {b g : Nat} (hg : g ≠ b) (y0 y1 y2 y3 y4 y5 y6 y7 y8 y9 : Value) :
    ((((((((((W.setCell ⟨b, 0, none⟩ y0).setCell ⟨b, 1, none⟩ y1).setCell ⟨b, 2, none⟩ y2).setCell ⟨b, 3, none⟩ y3).setCell ⟨b, 4, none⟩ y4).setCell ⟨b, 5, none⟩ y5).setCell ⟨b, 6, none⟩ y6).setCell ⟨b, 7, none⟩ y7).setCell ⟨b, 8, none⟩ y8).setCell ⟨b, 9, none⟩ y9).heap[g]? = W.heap[g]? := by
  exact (Below.heap_setCell _ _ _ _ hg).trans ((Below.heap_setCell _ _ _ _ hg).trans ((Below.heap_setCell _ _ _ _ hg).trans ((Below.heap_setCell _ _ _ _ hg).trans ((Below.heap_setCell _ _ _ _ hg).trans ((Below.heap_setCell _ _ _ _ hg).trans ((Below.heap_setCell _ _ _ _ hg).trans ((Below.heap_setCell _ _ _ _ hg).trans ((Below.heap_setCell _ _ _ _ hg).trans (Below.heap_setCell _ _ _ _ hg)))))))))

theorem ten_below {w W : World} {b : Nat} (hb : w.heap.size ≤ b) (h : Below w.heap.size w W) (y0 y1 y2 y3 y4 y5 y6 y7 y8 y9 : Value) :
    Below w.heap.size w ((((((((((W.setCell ⟨b, 0, none⟩ y0).setCell ⟨b, 1, none⟩ y1).setCell ⟨b, 2, none⟩ y2).setCell ⟨b, 3, none⟩ y3).setCell ⟨b, 4, none⟩ y4).setCell ⟨b, 5, none⟩ y5).setCell ⟨b, 6, none⟩ y6).setCell ⟨b, 7, none⟩ y7).setCell ⟨b, 8, none⟩ y8).setCell ⟨b, 9, none⟩ y9) :=
  bgoSet (bgoSet (bgoSet (bgoSet (bgoSet (bgoSet (bgoSet (bgoSet (bgoSet (bgoSet h hb _) hb _) hb _) hb _) hb _) hb _) hb _) hb _) hb _) hb _

/-- As PHeap, its slices in blocks of their own. -/
def POneH (k : Nat) (w : World) (e : Ending) (w' : World) : Prop :=
  ∃ a b c, e = .returned (hv (oneH k) a b c) ∧ w'.ownsRow w.heap.size 36 2 a 5 (pairCells (oneH k).wet) ∧ IntsAt w' b (oneH k).turns ∧ w'.ownsRow w.heap.size 104 3 c k (tripleCells (oneH k).readings) ∧ Below w.heap.size w w'

theorem one_own (k : Nat) (hk : k ≤ 2) (w : World) : Calls Try.prog 61 #[iv k] w (POneH k w) := by
  have hkI : (k : Int) ≤ 2 := by omega
  have hsl : ∀ b W, (Instr.slice 38 (.slice (some ⟨b, 0, none⟩) 2 2) none (some (.int .i64 (k : Int))) none).run Try.prog W = .ok (.slice (some ⟨b, 0, none⟩) k 2) W := fun b W => by
    have := run_slice_h (P := Try.prog) W 38 (some ⟨b, 0, none⟩) 2 2 (by kernel_rfl) .i64 (k : Int) (by omega) (by omega)
    rw [this]
    simp [go_sem, sliced]
  go_enter Try.func61, Try.ntmps61
  go_wp2_with fail
  obtain ⟨w2, hw2⟩ : ∃ w2, ((w.alloc (.cells #[iv 0, iv 0, iv 0, iv 0, iv 0, iv 0, iv 0, .slice none 0 0, .slice none 0 0, .slice none 0 0] 40)).alloc (.cells #[iv 1, iv 53, iv 1, iv 3, iv 70, iv 1] 104)) = w2 := ⟨_, rfl⟩
  have hB2 : Below w.heap.size w w2 := by rw [← hw2]; exact (by repeat (first | exact Below.refl _ _ | assumption | refine bgo ?_ (by assumption) | refine bgoAlloc ?_ _ | refine bgoDrew ?_ | refine bgoSet ?_ (by simp; omega) _))
  have hb0 : w2.heap[w.heap.size]? = some (.cells #[iv 0, iv 0, iv 0, iv 0, iv 0, iv 0, iv 0, .slice none 0 0, .slice none 0 0, .slice none 0 0] 40 (0, 0)) := by rw [← hw2]; exact (Below.heap_alloc _ _ _ (by first | omega | (simp; done) | (simp; omega))).trans (heap_new0 _ _)
  have hb1 : w2.heap[w.heap.size + 1]? = some (.cells #[iv 1, iv 53, iv 1, iv 3, iv 70, iv 1] 104 (0, 0)) := by rw [← hw2]; exact heap_new1 _ _ _
  rw [hw2]
  have s0 := (Array.getElem?_eq_some_iff.1 hb0).1
  have s1 := (Array.getElem?_eq_some_iff.1 hb1).1
  have HB := Lib.hid hB2
  have HB01 := Lib.hid (And.intro hb0 hb1)
  clear hw2 hB2 hb0 hb1
  refine wp_region_rg 11 [] none [(0, Spec.val (rv (30, 32))), (1, Spec.val (rv (10, 12))), (2, Spec.val (rv (10, 10))), (3, Spec.val (rv (12, 12))), (4, Spec.val (rv (8, 9))), (5, Spec.val (rv (10, 10))), (6, Spec.slice w2.heap.size #[iv 10, iv 12, iv 10, iv 10, iv 12, iv 12, iv 8, iv 9, iv 10, iv 10] 36 5)] (by kernel_rfl) (by kernel_rfl) ?_
  simp only [List.take_succ_cons, List.take_zero, List.drop_succ_cons, List.drop_zero]
  refine tree_val _ (by rfl) (by rfl) 63 _ (fun W hW => by go_simp; try rfl) (fun W hE hF => by exact between_any 30 32 W) ?_
  simp only [Act.put, List.setIfInBounds_toArray, List.set_cons_succ, List.set_cons_zero]
  refine tree_val _ (by rfl) (by rfl) 63 _ (fun W hW => by go_simp; try rfl) (fun W hE hF => by exact between_any 10 12 W) ?_
  simp only [Act.put, List.setIfInBounds_toArray, List.set_cons_succ, List.set_cons_zero]
  refine tree_val _ (by rfl) (by rfl) 63 _ (fun W hW => by go_simp; try rfl) (fun W hE hF => by exact between_any 10 10 W) ?_
  simp only [Act.put, List.setIfInBounds_toArray, List.set_cons_succ, List.set_cons_zero]
  refine tree_val _ (by rfl) (by rfl) 63 _ (fun W hW => by go_simp; try rfl) (fun W hE hF => by exact between_any 12 12 W) ?_
  simp only [Act.put, List.setIfInBounds_toArray, List.set_cons_succ, List.set_cons_zero]
  refine tree_val _ (by rfl) (by rfl) 63 _ (fun W hW => by go_simp; try rfl) (fun W hE hF => by exact between_any 8 9 W) ?_
  simp only [Act.put, List.setIfInBounds_toArray, List.set_cons_succ, List.set_cons_zero]
  refine tree_val _ (by rfl) (by rfl) 63 _ (fun W hW => by go_simp; try rfl) (fun W hE hF => by exact between_any 10 10 W) ?_
  simp only [Act.put, List.setIfInBounds_toArray, List.set_cons_succ, List.set_cons_zero]
  refine tree_slice w2.heap.size _ _ _ (by rfl) (Nat.le_refl _) (by rfl) (by simp) (by simp) (fun W hW => by go_simp; try rfl) (fun b6 => ?_)
  simp only [Act.put, List.setIfInBounds_toArray, List.set_cons_succ, List.set_cons_zero]
  repeat (refine tree_det (by rfl) _ (by rfl) (fun W hW => by go_simp; (try simp (disch := omega) only [IntWalk.i64_in, Int.tdiv_eq_ediv_of_nonneg]); try rfl) ?_; simp only [Act.put, List.setIfInBounds_toArray, List.set_cons_succ, List.set_cons_zero])
  intro W hE hF
  have hE' : Ext [] w2 W := hE
  obtain ⟨b', hb, hbB, hblk⟩ := hF _ (List.Mem.head _)
  cases hb
  have hb0 := (hE'.block _ s0 (by simp)).trans HB01.out.1
  have hb1 := (hE'.block _ s1 (by simp)).trans HB01.out.2
  have t0 := (Array.getElem?_eq_some_iff.1 hb0).1
  have hc0 : ∀ i, W.cell? ⟨w.heap.size, i, none⟩ = (#[iv 0, iv 0, iv 0, iv 0, iv 0, iv 0, iv 0, .slice none 0 0, .slice none 0 0, .slice none 0 0] : Array Value)[i]? := fun i => by
    simp only [World.cell?, hb0]; rfl
  have hf0 := fun k => frozen_of_block hb0 k
  have HX := Lib.hid (And.intro hb0 (And.intro hb1 (And.intro hblk (bgo HB.out hE'.below))))
  have hbne : ¬ b6 = w.heap.size := by omega
  clear hE hF hE' hblk hb0 hb1
  go_wp2_with fail
  refine bodyPost_ret (v := hv (oneH k) (.slice (some ⟨b6, 0, none⟩) 5 5) (.slice none 0 0) (.slice (some ⟨w.heap.size + 1, 0, none⟩) k 2)) (results_cell_row Try.results61 _ _ w.heap.size _ _ (0, 0) _ rfl (set_ten HX.out.1 _ _ _ _ _ _ _ _ _ _) Try.underlying40 rfl (by kernel_rfl)) rfl ?_
  refine ⟨_, _, _, rfl, ?_, ints_nil _, ?_, ?_⟩
  · refine owns_keep (w := W) (owns_block HX.out.2.2.1 rfl (by have := HB.out.size; omega) (by decide)) (fun g hg => ?_)
    have hgb : b6 = g := by simpa [Value.ownBlock] using hg
    subst hgb
    exact ten_other hbne _ _ _ _ _ _ _ _ _ _
  · refine owns_keep (w := W) ?_ (fun g hg => ?_)
    · have hb1 := HX.out.2.1
      clear HX hc0 hf0 hkI hsl
      obtain rfl | rfl | rfl : k = 0 ∨ k = 1 ∨ k = 2 := by omega
      · exact ⟨rfl, .inr ⟨w.heap.size + 1, 2, _, rfl, by omega, hb1, by omega, by decide, rfl, rfl⟩⟩
      · exact ⟨rfl, .inr ⟨w.heap.size + 1, 2, _, rfl, by omega, hb1, by omega, by decide, rfl, rfl⟩⟩
      · exact ⟨rfl, .inr ⟨w.heap.size + 1, 2, _, rfl, by omega, hb1, by omega, by decide, rfl, rfl⟩⟩
    · have hgb : w.heap.size + 1 = g := by simpa [Value.ownBlock] using hg
      subst hgb
      exact ten_other (by omega) _ _ _ _ _ _ _ _ _ _
  · exact ten_below (Nat.le_refl _) HX.out.2.2.2 _ _ _ _ _ _ _ _ _ _

theorem one_any (k : Nat) (hk : k ≤ 2) (w : World) : Calls Try.prog 61 #[iv k] w (PHeap (oneH k) w) := by
  refine (one_own k hk w).mono ?_
  rintro e w' ⟨a, b, c, rfl, h1, h2, h3, hb⟩
  refine ⟨a, b, c, rfl, SlAt.of_owns h1, h2, ?_, hb⟩
  have h := SlAt.of_owns h3
  clear h1 h2 h3 hb
  obtain rfl | rfl | rfl : k = 0 ∨ k = 1 ∨ k = 2 := by omega
  · exact h
  · exact h
  · exact h

end Go.Proofs.Ytoibfafmnaooaaa

namespace Go.Proofs.Ytoibfafmnaooaaa
open Go.RowKit Go.RG Go.SL Go.Shelf Cou
set_option maxRecDepth 100000

abbrev tOne : Int × List Int := (30, [10, 10, 12, 8, 10])
theorem ev_playErr : playErr (oneH 0) tOne [2] = 0 := by kernel_rfl
theorem ev_playOut : playOut (oneH 0) tOne [2] = [40, 50, 37, 45, 55] := by kernel_rfl
theorem ev_ask0 : askErr (oneH 0) [] = 0 := by kernel_rfl
theorem ev_bounds : (boundsOut (oneH 0) []).length = 5 ∧ (boundsOut (oneH 0) []).getD 3 (0, 0) = (70, 75) := ⟨by kernel_rfl, by kernel_rfl⟩
theorem ev_ask1 : askErr (oneH 0) [1] = 0 := by kernel_rfl
theorem ev_keeps : keepsV (oneH 0) [1] = 3 := by kernel_rfl
theorem ev_ask2 : askErr (oneH 1) [1] = 0 := by kernel_rfl
theorem ev_keeps1 : keepsV (oneH 1) [1] = 2 := by kernel_rfl
theorem ev_fear : fearErr (oneH 0) [1] = 0 ∧ fearOut (oneH 0) [1] = (4, true, false) := ⟨by kernel_rfl, by kernel_rfl⟩
theorem ev_few : fewErr (oneH 0) = 0 ∧ fewL (oneH 0) = [2] := ⟨by kernel_rfl, by kernel_rfl⟩
theorem ev_first : firstV (oneH 2) = 1 ∧ firstE (oneH 2) = 0 := ⟨by kernel_rfl, by kernel_rfl⟩
theorem ev_leave : fault (oneH 2) = 0 ∧ leaveL (oneH 2) = [0] := ⟨by kernel_rfl, by kernel_rfl⟩

end Go.Proofs.Ytoibfafmnaooaaa

namespace Go.Proofs.Ytoibfafmnaooaaa
open Go.RowKit Go.RG Go.SL Go.Shelf Cou
set_option maxHeartbeats 400000
set_option maxRecDepth 10000

/-- A list of one number, just made. -/
theorem ints_new1 (W : World) (x : Int) : IntsAt (W.alloc (.cells #[iv x] 3)) (.slice (some ⟨W.heap.size, 0, none⟩) 1 1) [x] := SlAt.of_block 1 1 (heap_new0 _ _) rfl (by decide)

set_option maxHeartbeats 4000000 in
theorem awake_any (w : World) : Calls Try.prog 19 #[] w (PV (.bool true) w) := by
  go_enter Try.func19, Try.ntmps19
  go_wp2_with fail
  refine (one_any 0 (by omega) _).mono ?_
  rintro e A1 ⟨a1, b1, c1, rfl, hw1, ht1, hx1, hb⟩
  have HA1 := Lib.hid hb
  have HS1 := Lib.hid (And.intro hw1 (And.intro ht1 hx1))
  clear hb hw1 ht1 hx1
  go_wp2_with fail
  refine (first_any _).mono ?_
  rintro e W1 ⟨v1, rfl, hv1, hb⟩
  have HB1 := Lib.hid hb
  have HV1 := Lib.hid hv1
  clear hb hv1
  go_wp2_with fail
  refine (Play_any (oneH 0) a1 b1 c1 v1 (.slice (some ⟨W1.heap.size, 0, none⟩) 1 1) 30 [10, 10, 12, 8, 10] [2] _ ((HS1.out.1.below HB1.out (Nat.le_refl _)).alloc _) ((HS1.out.2.1.below HB1.out (Nat.le_refl _)).alloc _) ((HS1.out.2.2.below HB1.out (Nat.le_refl _)).alloc _) (HV1.out.alloc _) (ints_new1 _ _)).mono ?_
  rintro e W2 ⟨l, rfl, hl, hb⟩
  rw [ev_playErr, ev_playOut] at *
  have hl' : IntsAt W2 l [40, 50, 37, 45, 55] := SlAt.of_owns hl
  obtain ⟨lo, lc, rfl⟩ := hl'.open
  replace hl' : IntsAt W2 (.slice lo 5 lc) [40, 50, 37, 45, 55] := hl'
  have HL := Lib.hid hl'
  have HB2 := Lib.hid (show Below A1.heap.size A1 W2 from bgo (bgoAlloc HB1.out _) hb)
  clear hl hl' hb
  go_wp2_with fail
  -- Bounds
  refine (one_any 0 (by omega) _).mono ?_
  rintro e A2 ⟨a2, b2, c2, rfl, hw2, ht2, hx2, hb⟩
  have HA2 := Lib.hid hb
  have HS2 := Lib.hid (And.intro hw2 (And.intro ht2 hx2))
  clear hb hw2 ht2 hx2
  go_wp2_with fail
  refine (Bounds_any (oneH 0) a2 b2 c2 (.slice none 0 0) [] _ HS2.out.1 HS2.out.2.1 HS2.out.2.2 (ints_nil _)).mono ?_
  rintro e W3 ⟨bv, rfl, hbv, hb⟩
  obtain ⟨bo, bc, rfl⟩ := SlAt.open hbv
  rw [ev_bounds.1] at *
  have HBV := Lib.hid (show PairsAt W3 (.slice bo 5 bc) (boundsOut (oneH 0) []) from by rw [← ev_bounds.1]; rw [ev_bounds.1]; exact hbv)
  rw [ev_ask0] at *
  have HB3 := Lib.hid (show Below W2.heap.size W2 W3 from bgo HA2.out hb)
  clear hb hbv
  go_wp2_with fail
  -- Keeps
  refine (one_any 0 (by omega) _).mono ?_
  rintro e A3 ⟨a3, b3, c3, rfl, hw3, ht3, hx3, hb⟩
  have HA3 := Lib.hid hb
  have HS3 := Lib.hid (And.intro hw3 (And.intro ht3 hx3))
  clear hb hw3 ht3 hx3
  go_wp2_with fail
  refine (Keeps_any (oneH 0) a3 b3 c3 (.slice (some ⟨A3.heap.size, 0, none⟩) 1 1) [1] _ (HS3.out.1.alloc _) (HS3.out.2.1.alloc _) (HS3.out.2.2.alloc _) (ints_new1 _ _)).mono ?_
  rintro e W4 ⟨rfl, hb⟩
  rw [ev_keeps, ev_ask1] at *
  have HB4 := Lib.hid (show Below W3.heap.size W3 W4 from bgo (bgoAlloc HA3.out _) hb)
  clear hb
  go_wp2_with fail
  -- Keeps
  refine (one_any 1 (by omega) _).mono ?_
  rintro e A4 ⟨a4, b4, c4, rfl, hw4, ht4, hx4, hb⟩
  have HA4 := Lib.hid hb
  have HS4 := Lib.hid (And.intro hw4 (And.intro ht4 hx4))
  clear hb hw4 ht4 hx4
  go_wp2_with fail
  refine (Keeps_any (oneH 1) a4 b4 c4 (.slice (some ⟨A4.heap.size, 0, none⟩) 1 1) [1] _ (HS4.out.1.alloc _) (HS4.out.2.1.alloc _) (HS4.out.2.2.alloc _) (ints_new1 _ _)).mono ?_
  rintro e W5 ⟨rfl, hb⟩
  rw [ev_keeps1, ev_ask2] at *
  have HB5 := Lib.hid (show Below W4.heap.size W4 W5 from bgo (bgoAlloc HA4.out _) hb)
  clear hb
  go_wp2_with fail
  -- Fear
  refine (one_any 0 (by omega) _).mono ?_
  rintro e A5 ⟨a5, b5, c5, rfl, hw5, ht5, hx5, hb⟩
  have HA5 := Lib.hid hb
  have HS5 := Lib.hid (And.intro hw5 (And.intro ht5 hx5))
  clear hb hw5 ht5 hx5
  go_wp2_with fail
  refine (Fear_any (oneH 0) a5 b5 c5 (.slice (some ⟨A5.heap.size, 0, none⟩) 1 1) [1] _ (HS5.out.1.alloc _) (HS5.out.2.1.alloc _) (HS5.out.2.2.alloc _) (ints_new1 _ _)).mono ?_
  rintro e W6 ⟨rfl, hb⟩
  rw [ev_fear.1, ev_fear.2] at *
  have HB6 := Lib.hid (show Below W5.heap.size W5 W6 from bgo (bgoAlloc HA5.out _) hb)
  clear hb
  have hd6 : (W6.alloc (.cells #[iv 4, .bool true, .bool false] 32)).heap[W6.heap.size]? = some (.cells #[iv 4, .bool true, .bool false] 32 (0, 0)) := heap_new0 _ _
  have HD6 := Lib.hid hd6
  clear hd6
  go_wp2_with fail
  -- Fewest
  refine (one_any 0 (by omega) _).mono ?_
  rintro e A6 ⟨a6, b6, c6, rfl, hw6, ht6, hx6, hb⟩
  have HA6 := Lib.hid hb
  have HS6 := Lib.hid (And.intro hw6 (And.intro ht6 hx6))
  clear hb hw6 ht6 hx6
  go_wp2_with fail
  refine (Fewest_any (oneH 0) a6 b6 c6 _ HS6.out.1 HS6.out.2.1 HS6.out.2.2).mono ?_
  rintro e W7 ⟨xv, rfl, hxv, hb⟩
  rw [ev_few.1, ev_few.2] at *
  obtain ⟨xo, xc, rfl⟩ := SlAt.open hxv
  replace hxv : IntsAt W7 (.slice xo 1 xc) [2] := hxv
  have HXV := Lib.hid hxv
  have HB7 := Lib.hid (show Below (W6.alloc (.cells #[iv 4, .bool true, .bool false] 32)).heap.size (W6.alloc (.cells #[iv 4, .bool true, .bool false] 32)) W7 from bgo HA6.out hb)
  clear hb hxv
  go_wp2_with fail
  -- First
  refine (one_any 2 (by omega) _).mono ?_
  rintro e A7 ⟨a7, b7, c7, rfl, hw7, ht7, hx7, hb⟩
  have HA7 := Lib.hid hb
  have HS7 := Lib.hid (And.intro hw7 (And.intro ht7 hx7))
  clear hb hw7 ht7 hx7
  go_wp2_with fail
  refine (First_any (oneH 2) a7 b7 c7 _ HS7.out.1 HS7.out.2.1 HS7.out.2.2).mono ?_
  rintro e W8 ⟨rfl, hb⟩
  rw [ev_first.1, ev_first.2] at *
  have HB8 := Lib.hid (show Below W7.heap.size W7 W8 from bgo HA7.out hb)
  clear hb
  go_wp2_with fail
  -- Leave
  refine (one_any 2 (by omega) _).mono ?_
  rintro e A8 ⟨a8, b8, c8, rfl, hw8, ht8, hx8, hb⟩
  have HA8 := Lib.hid hb
  have HS8 := Lib.hid (And.intro hw8 (And.intro ht8 hx8))
  clear hb hw8 ht8 hx8
  go_wp2_with fail
  refine (Leave_any (oneH 2) a8 b8 c8 _ HS8.out.1 HS8.out.2.1 HS8.out.2.2).mono ?_
  rintro e W9 ⟨ov, rfl, hov, hb⟩
  rw [ev_leave.1, ev_leave.2] at *
  obtain ⟨oo, oc, rfl⟩ := SlAt.open hov
  replace hov : IntsAt W9 (.slice oo 1 oc) [0] := hov
  have HOV := Lib.hid hov
  have HB9 := Lib.hid (show Below W8.heap.size W8 W9 from bgo HA8.out hb)
  clear hb hov
  have h79 := bgo HB8.out HB9.out
  have h69 := bgo HB7.out h79
  have h59 := bgo (show Below W5.heap.size W5 (W6.alloc (.cells #[iv 4, .bool true, .bool false] 32)) from bgoAlloc HB6.out _) h69
  have h39 := bgo HB4.out (bgo HB5.out h59)
  have h29 := bgo HB3.out h39
  have h09 := bgo HA1.out (bgo HB2.out h29)
  have hL := HL.out.below h29 (Nat.le_refl _)
  have hBV := HBV.out.below h39 (Nat.le_refl _)
  have hXV := HXV.out.below h79 (Nat.le_refl _)
  have hD := (h69.block W6.heap.size (by simp)).trans HD6.out
  have hlen : (boundsOut (oneH 0) []).length = 5 := ev_bounds.1
  have hBV5 : SlAt 2 W9 (.slice bo 5 bc) 5 (pairCells (boundsOut (oneH 0) [])) := by
    have := hBV
    unfold PairsAt at this
    rw [hlen] at this
    exact this
  obtain ⟨bb, boff, rfl, hbb, p0, p1⟩ := PairsAt.cell hBV5 (k := 3) (by rw [hlen]; omega)
  have hgd : (boundsOut (oneH 0) [])[3]'(by rw [hlen]; omega) = (70, 75) := by have := ev_bounds.2; simpa [List.getD, hlen] using this
  rw [hgd] at p0 p1
  have hgD : ∀ i, W9.cell? ⟨W6.heap.size, i, none⟩ = (#[iv 4, .bool true, .bool false] : Array Value)[i]? := fun i => by
    simp only [World.cell?, hD]; rfl
  have sD := (Array.getElem?_eq_some_iff.1 hD).1
  have HF := Lib.hid (And.intro hL (And.intro hXV h09))
  clear h79 h69 h59 h39 h29 h09 hL hBV hXV hD hgd hlen hBV5 HA1 HA2 HA3 HA4 HA5 HA6 HA7 HA8 HS1 HS2 HS3 HS4 HS5 HS6 HS7 HS8 HL HB2 HBV HB3 HB4 HB5 HB6 HB7 HB8 HB9 HV1 HB1 HD6 HXV
  go_wp2_with fail
  simp only [List.append_eq, List.cons_append, List.nil_append]
  refine wp_region_rg 74 [] none [(4, Spec.slice W9.heap.size #[iv 40, iv 50, iv 37, iv 45, iv 55] 3 5), (5, Spec.val (.bool true)), (20, Spec.val (rv (70, 75))), (54, Spec.slice W9.heap.size #[iv 2] 3 1), (55, Spec.val (.bool true)), (71, Spec.slice W9.heap.size #[iv 0] 3 1), (72, Spec.val (.bool true))] (by kernel_rfl) (by kernel_rfl) ?_
  simp only [List.take_succ_cons, List.take_zero, List.drop_succ_cons, List.drop_zero]
  repeat (first | (refine tree_det (by rfl) _ (by rfl) (fun W hW => by go_simp; (try simp (disch := omega) only [IntWalk.i64_in, Int.tdiv_eq_ediv_of_nonneg]); try rfl) ?_; simp only [Act.put, List.setIfInBounds_toArray, List.set_cons_succ, List.set_cons_zero]) | (refine tree_skip (by rfl) (by rfl) ?_; simp only [Act.put, List.setIfInBounds_toArray, List.set_cons_succ, List.set_cons_zero]))
  refine tree_slice W9.heap.size _ _ _ (by rfl) (Nat.le_refl _) (by rfl) (by simp) (by simp) (fun W hW => by go_simp; try rfl) (fun bx => ?_)
  simp only [Act.put, List.setIfInBounds_toArray, List.set_cons_succ, List.set_cons_zero]
  refine tree_val (.bool true) (by rfl) (by rfl) 30 _ (fun W hW => by go_simp; try rfl) (fun W hE hF => ?_) ?_
  · obtain ⟨cb, hcb, hB, hc⟩ := hF _ (List.Mem.head _) (by kernel_rfl)
    cases hcb
    have hE' : Ext [] W9 W := hE
    have hu : IntsAt W (.slice (some ⟨bx, 0, none⟩) 5 5) [40, 50, 37, 45, 55] := SlAt.of_block 1 5 hc rfl (by decide)
    refine (ints_any [40, 50, 37, 45, 55] [40, 50, 37, 45, 55] _ _ W (SlAt.below HF.out.1 hE'.below (Nat.le_refl _)) hu).mono ?_
    rintro e W' ⟨rfl, hb⟩
    exact ⟨by rw [beq_self_eq_true], hb⟩
  simp only [Act.put, List.setIfInBounds_toArray, List.set_cons_succ, List.set_cons_zero]
  repeat (first | (refine tree_det (by rfl) _ (by rfl) (fun W hW => by go_simp; (try simp (disch := omega) only [IntWalk.i64_in, Int.tdiv_eq_ediv_of_nonneg]); try rfl) ?_; simp only [Act.put, List.setIfInBounds_toArray, List.set_cons_succ, List.set_cons_zero]) | (refine tree_skip (by rfl) (by rfl) ?_; simp only [Act.put, List.setIfInBounds_toArray, List.set_cons_succ, List.set_cons_zero]))
  refine tree_val _ (by rfl) (by rfl) 63 _ (fun W hW => by go_simp; try rfl) (fun W hE hF => by exact between_any 70 75 W) ?_
  simp only [Act.put, List.setIfInBounds_toArray, List.set_cons_succ, List.set_cons_zero]
  repeat (first | (refine tree_det (by rfl) _ (by rfl) (fun W hW => by go_simp; (try simp (disch := omega) only [IntWalk.i64_in, Int.tdiv_eq_ediv_of_nonneg]); try rfl) ?_; simp only [Act.put, List.setIfInBounds_toArray, List.set_cons_succ, List.set_cons_zero]) | (refine tree_skip (by rfl) (by rfl) ?_; simp only [Act.put, List.setIfInBounds_toArray, List.set_cons_succ, List.set_cons_zero]))
  refine tree_slice W9.heap.size _ _ _ (by rfl) (Nat.le_refl _) (by rfl) (by simp) (by simp) (fun W hW => by go_simp; try rfl) (fun bx => ?_)
  simp only [Act.put, List.setIfInBounds_toArray, List.set_cons_succ, List.set_cons_zero]
  refine tree_val (.bool true) (by rfl) (by rfl) 30 _ (fun W hW => by go_simp; try rfl) (fun W hE hF => ?_) ?_
  · obtain ⟨cb, hcb, hB, hc⟩ := hF _ (List.Mem.head _) (by kernel_rfl)
    cases hcb
    have hE' : Ext [] W9 W := hE
    have hu : IntsAt W (.slice (some ⟨bx, 0, none⟩) 1 1) [2] := SlAt.of_block 1 1 hc rfl (by decide)
    refine (ints_any [2] [2] _ _ W (SlAt.below HF.out.2.1 hE'.below (Nat.le_refl _)) hu).mono ?_
    rintro e W' ⟨rfl, hb⟩
    exact ⟨by rw [beq_self_eq_true], hb⟩
  simp only [Act.put, List.setIfInBounds_toArray, List.set_cons_succ, List.set_cons_zero]
  repeat (first | (refine tree_det (by rfl) _ (by rfl) (fun W hW => by go_simp; (try simp (disch := omega) only [IntWalk.i64_in, Int.tdiv_eq_ediv_of_nonneg]); try rfl) ?_; simp only [Act.put, List.setIfInBounds_toArray, List.set_cons_succ, List.set_cons_zero]) | (refine tree_skip (by rfl) (by rfl) ?_; simp only [Act.put, List.setIfInBounds_toArray, List.set_cons_succ, List.set_cons_zero]))
  refine tree_slice W9.heap.size _ _ _ (by rfl) (Nat.le_refl _) (by rfl) (by simp) (by simp) (fun W hW => by go_simp; try rfl) (fun bx => ?_)
  simp only [Act.put, List.setIfInBounds_toArray, List.set_cons_succ, List.set_cons_zero]
  refine tree_val (.bool true) (by rfl) (by rfl) 30 _ (fun W hW => by go_simp; try rfl) (fun W hE hF => ?_) ?_
  · obtain ⟨cb, hcb, hB, hc⟩ := hF _ (List.Mem.head _) (by kernel_rfl)
    cases hcb
    have hE' : Ext [] W9 W := hE
    have hu : IntsAt W (.slice (some ⟨bx, 0, none⟩) 1 1) [0] := SlAt.of_block 1 1 hc rfl (by decide)
    refine (ints_any [0] [0] _ _ W (SlAt.below HOV.out hE'.below (Nat.le_refl _)) hu).mono ?_
    rintro e W' ⟨rfl, hb⟩
    exact ⟨by rw [beq_self_eq_true], hb⟩
  simp only [Act.put, List.setIfInBounds_toArray, List.set_cons_succ, List.set_cons_zero]
  repeat (first | (refine tree_det (by rfl) _ (by rfl) (fun W hW => by go_simp; (try simp (disch := omega) only [IntWalk.i64_in, Int.tdiv_eq_ediv_of_nonneg]); try rfl) ?_; simp only [Act.put, List.setIfInBounds_toArray, List.set_cons_succ, List.set_cons_zero]) | (refine tree_skip (by rfl) (by rfl) ?_; simp only [Act.put, List.setIfInBounds_toArray, List.set_cons_succ, List.set_cons_zero]))
  intro W hE hF
  have hE' : Ext [] W9 W := hE
  have HE := Lib.hid hE'.below
  clear hE hF hE'
  go_wp2_with fail
  go_returns
  exact ⟨by simp, bgo HF.out.2.2 HE.out⟩

end Go.Proofs.Ytoibfafmnaooaaa

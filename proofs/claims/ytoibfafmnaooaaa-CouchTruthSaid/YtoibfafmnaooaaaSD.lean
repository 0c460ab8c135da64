/-
  Contracts of the reference: Bounds, Kept, Keeps, Fear; of the law: sure.
  Contract of the reference: Fear.
  The plain laws of chapter 4, fifth part: the reference's truths are the heap's; its bounds are the program's. No program in sight.
-/
import Derived.WalkKit
import Derived.WalkLawsBesides
import Derived.WalkSpells
import Derived.Outline
import Derived.Handy
import Derived.KernelRfl
import Derived.Lib.Hide
import Derived.Test.YtoibfafmnaooaaaSC
import Derived.Test.YtoibfafmnaooaaaML
namespace Go.Proofs.Ytoibfafmnaooaaa
open Go.RowKit Go.RG Go.SL Go.Shelf Cou
set_option maxHeartbeats 400000
set_option maxRecDepth 10000

def heatI (h : HeapD) (turns : List Int) (i : Nat) (t : Int × List Int) : Int := heatAt h.size h.cool turns t.1 t.2 (i + 1)
/-- Bounds of the first k truths. -/
def bndTo (h : HeapD) (turns : List Int) (i : Nat) (l : List (Int × List Int)) : Nat → Rng
  | 0 => (1099511627776, -1)
  | k + 1 => (min (bndTo h turns i l k).1 (heatI h turns i (l.getD k (0, []))), max (bndTo h turns i l k).2 (heatI h turns i (l.getD k (0, []))))

set_option maxHeartbeats 2000000 in
theorem refBounds_any (h : HeapD) (wv tv xv' ev rv' : Value) (es : List TE) (turns : List Int) (i : Nat) (w : World) (hw : PairsAt w wv h.wet) (ht : IntsAt w tv h.turns) (hx : TriplesAt w xv' h.readings)
    (hev : TEAt w ev es) (hes : ∀ e ∈ es, IntsAt w e.2.1 e.2.2) (hok : ∀ e ∈ es, HeatOk h (teP e) ∧ i < e.2.2.length) (hi : i < 12) (hr : IntsAt w rv' turns) :
    Calls Try.prog 53 #[hv h wv tv xv', ev, rv', iv (i : Int)] w (PV (.agg #[iv (bndTo h turns i (es.map teP) es.length).1, iv (bndTo h turns i (es.map teP) es.length).2]) w) := by
  have hle := hev.len
  obtain ⟨ow, cw, rfl⟩ := hw.open
  obtain ⟨ot, ct, rfl⟩ := ht.open
  obtain ⟨ox, cx, rfl⟩ := hx.open
  have HW := Lib.hid hw
  have HT := Lib.hid ht
  have HX := Lib.hid hx
  clear hw ht hx
  obtain ⟨oe, ce, rfl⟩ := TEAt.open hev
  obtain ⟨or, cr, rfl⟩ := hr.open
  have HEV := Lib.hid hev
  have HES := Lib.hid hes
  have HOK := Lib.hid hok
  have HR := Lib.hid hr
  obtain ⟨B, hB⟩ : ∃ B, bndTo h turns i (es.map teP) = B := ⟨_, rfl⟩
  have HBN : Hid (∀ k (hk : k < es.length), B (k + 1) = (min (B k).1 (heatI h turns i (teP es[k])), max (B k).2 (heatI h turns i (teP es[k])))) := Lib.hid (fun k hk => by
    rw [← hB]
    have : (es.map teP).getD k (0, []) = teP es[k] := by simp [List.getD, hk]
    rw [bndTo, this])
  have HB0 : Hid (B 0 = (1099511627776, -1)) := Lib.hid (by rw [← hB]; rfl)
  rw [hB]
  clear hev hes hok hr hB
  go_enter Try.func53, Try.ntmps53
  go_wp2_with fail
  refine gworld fun W1 hW1 => ?_
  have HB1 := Lib.hid (show Below w.heap.size w W1 from by rw [hW1]; exact (by repeat (first | exact Below.refl _ _ | assumption | refine bgo ?_ (by assumption) | refine bgoAlloc ?_ _ | refine bgoDrew ?_ | refine bgoSet ?_ (by simp; omega) _)))
  have HX1 := Lib.hid (show W1.heap[w.heap.size]? = some (.cells #[.int .i64 h.last, .int .i64 h.size, .int .i64 h.cool, .int .i64 h.die, .int .i64 h.burn, .int .i64 h.start.1, .int .i64 h.start.2, .slice ow h.wet.length cw, .slice ot h.turns.length ct, .slice ox h.readings.length cx] 28 (0, 0)) from by rw [hW1]; exact (Below.heap_alloc _ _ _ (by first | omega | (simp; done) | (simp; omega))).trans ((Below.heap_alloc _ _ _ (by first | omega | (simp; done) | (simp; omega))).trans (heap_new0 _ _)))
  have HX2 := Lib.hid (show W1.heap[w.heap.size + 1]? = some (.cells #[iv 0, iv 0] 23 (0, 0)) from by rw [hW1]; exact (Below.heap_alloc _ _ _ (by first | omega | (simp; done) | (simp; omega))).trans (heap_new1 _ _ _))
  have HX3 := Lib.hid (show W1.heap[w.heap.size + 1 + 1]? = some (.cells #[iv (B 0).1, iv (B 0).2] 23 (0, 0)) from by rw [hW1, HB0.out]; exact heap_new2 _ _ _ _)
  clear hW1
  go_loopw [10] (fun u wr => ∃ k : Nat, k ≤ es.length ∧ u = .int .i64 k ∧ (wr.heap[w.heap.size]? = some (.cells #[.int .i64 h.last, .int .i64 h.size, .int .i64 h.cool, .int .i64 h.die, .int .i64 h.burn, .int .i64 h.start.1, .int .i64 h.start.2, .slice ow h.wet.length cw, .slice ot h.turns.length ct, .slice ox h.readings.length cx] 28 (0, 0)) ∧ wr.heap[w.heap.size + 1]? = some (.cells #[iv 0, iv 0] 23 (0, 0)) ∧ wr.heap[w.heap.size + 1 + 1]? = some (.cells #[iv (B k).1, iv (B k).2] 23 (0, 0))) ∧ Below w.heap.size w wr) (fun u _ => es.length - (intOf u).toNat)
  case atStart => exact ⟨0, Nat.zero_le _, rfl, ⟨HX1.out, HX2.out, HX3.out⟩, HB1.out⟩
  case round =>
    obtain ⟨k, hk, rfl, ⟨hb0, hb1, hb2⟩, hB⟩ := hrel
    obtain ⟨lo, hlo⟩ : ∃ lo, (B k).1 = lo := ⟨_, rfl⟩
    obtain ⟨hi', hhi⟩ : ∃ hi', (B k).2 = hi' := ⟨_, rfl⟩
    rw [hlo, hhi] at hb2
    have HB := Lib.hid hB
    have HBK := Lib.hid (And.intro hb0 (And.intro hb1 hb2))
    have hz0 := (Array.getElem?_eq_some_iff.1 hb0).1
    have hz1 := (Array.getElem?_eq_some_iff.1 hb1).1
    have hz2 := (Array.getElem?_eq_some_iff.1 hb2).1
    obtain ⟨hc0, _, _⟩ := cells_of_block hb0
    obtain ⟨hc1, _, _⟩ := cells_of_block hb1
    obtain ⟨hc2, _, _⟩ := cells_of_block hb2
    clear hb0 hb1 hb2 hB
    by_cases hlt : k < es.length
    case neg =>
      obtain rfl : k = es.length := by omega
      have HLH := Lib.hid (And.intro hlo hhi)
      clear hlo hhi
      go_wp2_with fail
      rw [HLH.out.1, HLH.out.2]
      obtain ⟨WF, hWF⟩ : ∃ WF, (wr.setCell ⟨w.heap.size + 1, 0, none⟩ (iv lo)).setCell ⟨w.heap.size + 1, 1, none⟩ (iv hi') = WF := ⟨_, rfl⟩
      have hBF : Below w.heap.size w WF := by rw [← hWF]; exact bgoSet (bgoSet HB.out (by simp) _) (by simp) _
      obtain ⟨hc, _, _⟩ := cells_of_block (show WF.heap[w.heap.size + 1]? = some (.cells #[iv lo, iv hi'] 23 (0, 0)) from by rw [← hWF]; exact set_block (set_block HBK.out.2.1 _) _)
      rw [hWF]
      clear hc0 hc1 hc2 hWF
      (try simp only [Exit.inBlock, Exit.then])
      refine bodyPost_ret (v := .agg #[iv lo, iv hi']) (by simp [results, Try.results53, go_sem, hc]; try omega) rfl ?_
      exact ⟨rfl, hBF⟩
    have hltI : (k : Int) < es.length := by omega
    obtain ⟨b, off, rfl, hb, d1, d2⟩ := TEAt.cell (SlAt.below HEV.out HB.out (Nat.le_refl _)) hlt
    have HNX := Lib.hid (HBN.out k hlt)
    have hee := HES.out _ (List.getElem_mem hlt)
    have hoo := HOK.out _ (List.getElem_mem hlt)
    generalize es[k] = e at *
    obtain ⟨start, ve, wet⟩ := e
    obtain ⟨o3, c3, rfl⟩ := SlAt.open (show IntsAt w ve wet from hee)
    have hlw : wet.length ≤ 9223372036854775807 := SlAt.len (show IntsAt w _ wet from hee)
    have HH := Lib.hid (fun (W : World) (hW : Below w.heap.size w W) => Heat_at h (start, wet) hoo.1 ow ot ox h.wet.length cw h.turns.length ct h.readings.length cx (.slice o3 wet.length c3) (.slice or turns.length cr) turns i W hoo.2 hi (SlAt.below (show IntsAt w (.slice o3 wet.length c3) wet from hee) hW (Nat.le_refl _)) (HR.out.below hW (Nat.le_refl _)))
    have HN2 : Hid (B (k + 1) = (min (B k).1 (heatAt h.size h.cool turns start wet (i + 1)), max (B k).2 (heatAt h.size h.cool turns start wet (i + 1)))) := HNX
    have HLH := Lib.hid (And.intro hlo hhi)
    generalize hxx : heatAt h.size h.cool turns start wet (i + 1) = x at *
    clear HNX hee hoo hlo hhi hxx
    go_wp2_with fail
    refine wp_region_rg 9 [] none [(7, Spec.val (iv x))] (by kernel_rfl) (by kernel_rfl) ?_
    simp only [List.take_succ_cons, List.take_zero, List.drop_succ_cons, List.drop_zero]
    repeat (first | (refine tree_det (by rfl) _ (by rfl) (fun W hW => by go_simp; (try simp (disch := omega) only [IntWalk.i64_in]); try rfl) ?_; simp only [Act.put, List.setIfInBounds_toArray, List.set_cons_succ, List.set_cons_zero]) | (refine tree_skip (by rfl) (by rfl) ?_; simp only [Act.put, List.setIfInBounds_toArray, List.set_cons_succ, List.set_cons_zero]))
    refine tree_val _ (by rfl) (by rfl) 37 _ (fun W hW => by go_simp; try rfl) (fun W hE hF => by exact HH.out W (bgo HB.out (Ext.below (show Ext [] wr W from hE)))) ?_
    simp only [Act.put, List.setIfInBounds_toArray, List.set_cons_succ, List.set_cons_zero]
    repeat (first | (refine tree_det (by rfl) _ (by rfl) (fun W hW => by go_simp; (try simp (disch := omega) only [IntWalk.i64_in]); try rfl) ?_; simp only [Act.put, List.setIfInBounds_toArray, List.set_cons_succ, List.set_cons_zero]) | (refine tree_skip (by rfl) (by rfl) ?_; simp only [Act.put, List.setIfInBounds_toArray, List.set_cons_succ, List.set_cons_zero]))
    intro W hE hF
    have hE' : Ext [] wr W := hE
    have HBW := Lib.hid (bgo HB.out hE'.below)
    have hW0 := (hE'.block _ hz0 (by simp)).trans HBK.out.1
    have hW1 := (hE'.block _ hz1 (by simp)).trans HBK.out.2.1
    have hW2 := (hE'.block _ hz2 (by simp)).trans HBK.out.2.2
    have HWB := Lib.hid (And.intro hW0 (And.intro hW1 hW2))
    clear hc0 hc1 hc2 hE hF hE'
    obtain ⟨hc2, hf2, hs2⟩ := cells_of_block hW2
    clear hW0 hW1 hW2
    go_wp2_with fail
    go_roundw
    case rel =>
      refine ⟨k + 1, by omega, by go_num, ⟨?_, ?_, ?_⟩, ?_⟩
      · exact (Below.heap_setCell _ _ _ _ (by show w.heap.size ≠ w.heap.size + 1 + 1; omega)).trans ((Below.heap_setCell _ _ _ _ (by show w.heap.size ≠ w.heap.size + 1 + 1; omega)).trans HWB.out.1)
      · exact (Below.heap_setCell _ _ _ _ (by show w.heap.size + 1 ≠ w.heap.size + 1 + 1; omega)).trans ((Below.heap_setCell _ _ _ _ (by show w.heap.size + 1 ≠ w.heap.size + 1 + 1; omega)).trans HWB.out.2.1)
      · have e1 : (if x < lo then x else lo) = min lo x := by split <;> omega
        have e2 : (if hi' < x then x else hi') = max hi' x := by split <;> omega
        rw [HN2.out, HLH.out.1, HLH.out.2, e1, e2]
        exact set_block (set_block HWB.out.2.2 _) _
      · exact bgoSet (bgoSet HBW.out (by show w.heap.size ≤ w.heap.size + 1 + 1; omega) _) (by show w.heap.size ≤ w.heap.size + 1 + 1; omega) _
    case measure => simp [intOf]; omega

def sureE (h : HeapD) : Int := if fault h ≠ 0 then fault h else if (truthsR h).length = 0 then 11 else 0
def sureL (h : HeapD) : List (Int × List Int) := if fault h ≠ 0 then [] else truthsR h

/-- What sure returns. -/
def PSure (l : List (Int × List Int)) (E : Int) (w : World) (e : Ending) (w' : World) : Prop := ∃ v es, e = .returned (.tuple #[v, iv E]) ∧ TEAt w' v es ∧ es.map teP = l ∧ (∀ e ∈ es, IntsAt w' e.2.1 e.2.2) ∧ Below w.heap.size w w'

theorem tes_nil (w : World) : TEAt w (.slice none 0 0) [] := SlAt.of_owns (base := 0) (e := 66) ⟨rfl, .inl ⟨rfl, rfl⟩⟩

set_option maxHeartbeats 2000000 in
theorem sure_any (h : HeapD) (wv tv xv' : Value) (w : World) (hw : PairsAt w wv h.wet) (ht : IntsAt w tv h.turns) (hx : TriplesAt w xv' h.readings) :
    Calls Try.prog 23 #[hv h wv tv xv'] w (PSure (sureL h) (sureE h) w) := by
  obtain ⟨ow, cw, rfl⟩ := hw.open
  obtain ⟨ot, ct, rfl⟩ := ht.open
  obtain ⟨ox, cx, rfl⟩ := hx.open
  have HW := Lib.hid hw
  have HT := Lib.hid ht
  have HX := Lib.hid hx
  clear hw ht hx
  obtain ⟨f, hf⟩ : ∃ f, fault h = f := ⟨_, rfl⟩
  have HFA := Lib.hid (fun (W : World) (h1 : PairsAt W (.slice ow h.wet.length cw) h.wet) (h2 : IntsAt W (.slice ot h.turns.length ct) h.turns) (h3 : TriplesAt W (.slice ox h.readings.length cx) h.readings) => lawFault_any h _ _ _ W h1 h2 h3)
  rw [hf] at HFA
  by_cases hf0 : f = 0
  case neg =>
    have HE := Lib.hid (show sureL h = [] ∧ sureE h = f from ⟨by unfold sureL; rw [if_pos (by rw [hf]; exact hf0)], by unfold sureE; rw [if_pos (by rw [hf]; exact hf0), hf]⟩)
    have hfn : (f != 0) = true := by simpa using hf0
    rw [HE.out.1, HE.out.2]
    clear hf hf0 HE
    go_enter Try.func23, Try.ntmps23
    go_wp2_with fail
    refine gcallsW fun W1 hW1 => ?_
    have HB1 := Lib.hid (show Below w.heap.size w W1 from by rw [hW1]; exact (by repeat (first | exact Below.refl _ _ | assumption | refine bgo ?_ (by assumption) | refine bgoAlloc ?_ _ | refine bgoDrew ?_ | refine bgoSet ?_ (by simp; omega) _)))
    clear hW1
    refine (HFA.out _ (HW.out.below HB1.out (Nat.le_refl _)) (HT.out.below HB1.out (Nat.le_refl _)) (HX.out.below HB1.out (Nat.le_refl _))).mono ?_
    rintro e W2 ⟨rfl, hb⟩
    have HB2 := Lib.hid (bgo HB1.out hb)
    clear hb HFA
    go_wp2_with fail
    go_returns
    exact ⟨.slice none 0 0, [], by simp, tes_nil _, rfl, (fun e he => by cases he), HB2.out⟩
  case pos =>
    subst hf0
    have HS := Lib.hid (sound_of hf)
    obtain ⟨T, hT⟩ : ∃ T, truthsR h = T := ⟨_, rfl⟩
    have HE := Lib.hid (show sureL h = T ∧ sureE h = (if T.length = 0 then 11 else 0) from ⟨by unfold sureL; rw [if_neg (by rw [hf]; simp), hT], by unfold sureE; rw [if_neg (by rw [hf]; simp), hT]⟩)
    have HTR := Lib.hid (fun (W : World) (h1 : PairsAt W (.slice ow h.wet.length cw) h.wet) (h2 : IntsAt W (.slice ot h.turns.length ct) h.turns) (h3 : TriplesAt W (.slice ox h.readings.length cx) h.readings) => Truths_any h HS.out _ _ _ W h1 h2 h3)
    rw [hT] at HTR
    obtain ⟨E, hE⟩ : ∃ E, sureE h = E := ⟨_, rfl⟩
    have HE2 : Hid (E = (if T.length = 0 then 11 else 0)) := Lib.hid (by rw [← hE]; exact HE.out.2)
    rw [HE.out.1, hE]
    clear hf hT HE HS hE
    go_enter Try.func23, Try.ntmps23
    go_wp2_with fail
    refine gcallsW fun W1 hW1 => ?_
    have HB1 := Lib.hid (show Below w.heap.size w W1 from by rw [hW1]; exact (by repeat (first | exact Below.refl _ _ | assumption | refine bgo ?_ (by assumption) | refine bgoAlloc ?_ _ | refine bgoDrew ?_ | refine bgoSet ?_ (by simp; omega) _)))
    have HX1 := Lib.hid (show W1.heap[w.heap.size]? = some (.cells #[.int .i64 h.last, .int .i64 h.size, .int .i64 h.cool, .int .i64 h.die, .int .i64 h.burn, .int .i64 h.start.1, .int .i64 h.start.2, .slice ow h.wet.length cw, .slice ot h.turns.length ct, .slice ox h.readings.length cx] 28 (0, 0)) from by rw [hW1]; exact heap_new0 _ _)
    have hlt1 := (cells_of_block HX1.out).2.2
    clear hW1
    refine (HFA.out _ (HW.out.below HB1.out (Nat.le_refl _)) (HT.out.below HB1.out (Nat.le_refl _)) (HX.out.below HB1.out (Nat.le_refl _))).mono ?_
    rintro e W2 ⟨rfl, hb⟩
    have HB2 := Lib.hid (bgo HB1.out hb)
    obtain ⟨hc2, _, hs2⟩ := cells_of_block ((hb.block _ hlt1).trans HX1.out)
    clear hb HFA
    go_wp2_with fail
    refine (HTR.out _ (HW.out.below HB2.out (Nat.le_refl _)) (HT.out.below HB2.out (Nat.le_refl _)) (HX.out.below HB2.out (Nat.le_refl _))).mono ?_
    rintro e W3 ⟨v, es, rfl, hv, hes, hi, hb⟩
    have HB3 := Lib.hid (bgo HB2.out hb)
    obtain ⟨oe, ce, rfl⟩ := TEAt.open hv
    have hln := hv.len
    have HV := Lib.hid (And.intro hv (And.intro hes hi))
    have hle : T.length = es.length := by rw [← hes]; simp
    have HLE := Lib.hid hle
    clear hle
    clear hb hv hes hi HTR hc2 hs2
    by_cases h0 : es.length = 0
    · have h0b : ((es.length : Int) == 0) = true := by simp [h0]
      obtain rfl : E = 11 := by rw [HE2.out, if_pos (by rw [HLE.out]; exact h0)]
      obtain rfl : T = [] := List.eq_nil_of_length_eq_zero (by rw [HLE.out]; exact h0)
      clear h0
      go_wp2_with fail
      go_returns
      exact ⟨.slice none 0 0, [], by simp, tes_nil _, rfl, (fun e he => by cases he), HB3.out⟩
    · have h0b : ((es.length : Int) == 0) = false := by rw [beq_eq_false_iff_ne]; omega
      obtain rfl : E = 0 := by rw [HE2.out, if_neg (by rw [HLE.out]; exact h0)]
      clear h0
      go_wp2_with fail
      go_returns
      exact ⟨.slice oe es.length ce, es, by simp, HV.out.1, HV.out.2.1, HV.out.2.2, HB3.out⟩

end Go.Proofs.Ytoibfafmnaooaaa

namespace Go.Proofs.Ytoibfafmnaooaaa
open Go.RowKit Go.RG Go.SL Go.Shelf Cou
set_option maxHeartbeats 400000
set_option maxRecDepth 10000

def bndR (h : HeapD) (turns : List Int) (l : List (Int × List Int)) (i : Nat) : Rng := bndTo h turns i l l.length
def fearB (h : HeapD) (r : Rng) : Bool := decide (h.burn < r.2) || decide (r.1 < h.die)
def fearR (h : HeapD) (turns : List Int) (l : List (Int × List Int)) : Option Nat := (List.range (h.last + 1).toNat).find? fun i => fearB h (bndR h turns l i)
def fearRV (h : HeapD) (turns : List Int) (l : List (Int × List Int)) : Value := match fearR h turns l with
  | some i => .tuple #[.agg #[iv (i : Int), .bool (decide (h.burn < (bndR h turns l i).2)), .bool (decide ((bndR h turns l i).1 < h.die))], .bool true]
  | none => .tuple #[.agg #[iv 0, .bool false, .bool false], .bool false]

theorem fearR_at {h : HeapD} {turns : List Int} {l : List (Int × List Int)} {k : Nat} (hk : k < (h.last + 1).toNat) (h1 : ∀ j, j < k → fearB h (bndR h turns l j) = false) (h2 : fearB h (bndR h turns l k) = true) : fearR h turns l = some k := by
  unfold fearR
  rw [List.find?_range_eq_some]
  exact ⟨h2, by simpa using hk, fun j hj => by rw [h1 j hj]; rfl⟩
theorem fearR_no {h : HeapD} {turns : List Int} {l : List (Int × List Int)} (h1 : ∀ j, j < (h.last + 1).toNat → fearB h (bndR h turns l j) = false) : fearR h turns l = none := by
  unfold fearR
  rw [List.find?_eq_none]
  intro j hj
  rw [h1 j (List.mem_range.1 hj)]
  simp

set_option maxHeartbeats 2000000 in
theorem refFear_any (h : HeapD) (wv tv xv' ev rv' : Value) (es : List TE) (turns : List Int) (w : World) (hw : PairsAt w wv h.wet) (ht : IntsAt w tv h.turns) (hx : TriplesAt w xv' h.readings)
    (hev : TEAt w ev es) (hes : ∀ e ∈ es, IntsAt w e.2.1 e.2.2) (hok : ∀ e ∈ es, HeatOk h (teP e) ∧ (h.last + 1).toNat ≤ e.2.2.length) (h0 : 0 ≤ h.last) (h9 : h.last ≤ 9) (hr : IntsAt w rv' turns) :
    Calls Try.prog 26 #[hv h wv tv xv', ev, rv'] w (PV (fearRV h turns (es.map teP)) w) := by
  obtain ⟨ow, cw, rfl⟩ := hw.open
  obtain ⟨ot, ct, rfl⟩ := ht.open
  obtain ⟨ox, cx, rfl⟩ := hx.open
  have HW := Lib.hid hw
  have HT := Lib.hid ht
  have HX := Lib.hid hx
  clear hw ht hx
  obtain ⟨oe, ce, rfl⟩ := TEAt.open hev
  obtain ⟨or, cr, rfl⟩ := hr.open
  have HBD := Lib.hid (fun (k : Nat) (hk : k < (h.last + 1).toNat) (W : World) (hB : Below w.heap.size w W) => refBounds_any h (.slice ow h.wet.length cw) (.slice ot h.turns.length ct) (.slice ox h.readings.length cx) (.slice oe es.length ce) (.slice or turns.length cr) es turns k W (HW.out.below hB (Nat.le_refl _)) (HT.out.below hB (Nat.le_refl _)) (HX.out.below hB (Nat.le_refl _)) (SlAt.below hev hB (Nat.le_refl _)) (fun e he => (hes e he).below hB (Nat.le_refl _)) (fun e he => ⟨(hok e he).1, by have := (hok e he).2; omega⟩) (by omega) (hr.below hB (Nat.le_refl _)))
  obtain ⟨l, hl⟩ : ∃ l, es.map teP = l := ⟨_, rfl⟩
  have hll : l.length = es.length := by rw [← hl]; simp
  rw [hl] at HBD
  rw [hl]
  obtain ⟨N, hN⟩ : ∃ N : Nat, h.last = N := ⟨h.last.toNat, by omega⟩
  have HN := Lib.hid hN
  have HLL := Lib.hid hll
  obtain ⟨q, hq⟩ : ∃ q, fearRV h turns l = q := ⟨_, rfl⟩
  have HQ := Lib.hid hq
  rw [hq]
  have hN9 : N ≤ 9 := by omega
  clear hev hes hok hr hl hll hq hN
  go_enter Try.func26, Try.ntmps26
  go_wp2_with fail
  refine gworld fun W1 hW1 => ?_
  have HB1 := Lib.hid (show Below w.heap.size w W1 from by rw [hW1]; exact (by repeat (first | exact Below.refl _ _ | assumption | refine bgo ?_ (by assumption) | refine bgoAlloc ?_ _ | refine bgoDrew ?_ | refine bgoSet ?_ (by simp; omega) _)))
  have HX1 := Lib.hid (show W1.heap[w.heap.size]? = some (.cells #[.int .i64 h.last, .int .i64 h.size, .int .i64 h.cool, .int .i64 h.die, .int .i64 h.burn, .int .i64 h.start.1, .int .i64 h.start.2, .slice ow h.wet.length cw, .slice ot h.turns.length ct, .slice ox h.readings.length cx] 28 (0, 0)) from by rw [hW1]; exact (Below.heap_alloc _ _ _ (by first | omega | (simp; done) | (simp; omega))).trans (heap_new0 _ _))
  have HX2 := Lib.hid (show W1.heap[w.heap.size + 1]? = some (.cells #[iv 0, .bool false, .bool false] 48 (0, 0)) from by rw [hW1]; exact heap_new1 _ _ _)
  clear hW1
  go_loopw [8] (fun u wr => ∃ k : Nat, k ≤ N + 1 ∧ u = .int .i64 k ∧ (wr.heap[w.heap.size]? = some (.cells #[.int .i64 h.last, .int .i64 h.size, .int .i64 h.cool, .int .i64 h.die, .int .i64 h.burn, .int .i64 h.start.1, .int .i64 h.start.2, .slice ow h.wet.length cw, .slice ot h.turns.length ct, .slice ox h.readings.length cx] 28 (0, 0)) ∧ wr.heap[w.heap.size + 1]? = some (.cells #[iv 0, .bool false, .bool false] 48 (0, 0))) ∧ Below w.heap.size w wr ∧ ∀ j, j < k → fearB h (bndR h turns l j) = false) (fun u _ => N + 1 - (intOf u).toNat)
  case atStart => exact ⟨0, Nat.zero_le _, rfl, ⟨HX1.out, HX2.out⟩, HB1.out, fun j hj => by omega⟩
  case round =>
    obtain ⟨k, hk, rfl, ⟨hb0, hb1⟩, hB, hno⟩ := hrel
    have HB := Lib.hid (And.intro hB hno)
    have HBK := Lib.hid (And.intro hb0 hb1)
    have hz0 := (Array.getElem?_eq_some_iff.1 hb0).1
    have hz1 := (Array.getElem?_eq_some_iff.1 hb1).1
    obtain ⟨hc0, _, _⟩ := cells_of_block hb0
    obtain ⟨hc1, _, _⟩ := cells_of_block hb1
    clear hb0 hb1 hB hno
    by_cases hlt : k ≤ N
    case neg =>
      have HKN := Lib.hid (show k = N + 1 from by omega)
      have hltI : decide ((k : Int) ≤ h.last) = false := by rw [HN.out]; simp; have := HKN.out; omega
      obtain rfl : q = .tuple #[.agg #[iv 0, .bool false, .bool false], .bool false] := by
        rw [← HQ.out]; unfold fearRV
        rw [fearR_no (fun j hj => HB.out.2 j (by have := HN.out; have := HKN.out; omega))]
      go_wp2_with fail
      obtain ⟨WF, hWF⟩ : ∃ WF, ((wr.setCell ⟨w.heap.size + 1, 0, none⟩ (iv 0)).setCell ⟨w.heap.size + 1, 1, none⟩ (.bool false)).setCell ⟨w.heap.size + 1, 2, none⟩ (.bool false) = WF := ⟨_, rfl⟩
      have hBF : Below w.heap.size w WF := by rw [← hWF]; exact bgoSet (bgoSet (bgoSet HB.out.1 (by simp) _) (by simp) _) (by simp) _
      obtain ⟨hc, _, _⟩ := cells_of_block (show WF.heap[w.heap.size + 1]? = some (.cells #[iv 0, .bool false, .bool false] 48 (0, 0)) from by rw [← hWF]; exact set_block (set_block (set_block HBK.out.2 _) _) _)
      rw [hWF]
      clear hc0 hc1 hWF
      (try simp only [Exit.inBlock, Exit.then])
      refine bodyPost_ret (v := .tuple #[.agg #[iv 0, .bool false, .bool false], .bool false]) (by simp [results, Try.results26, go_sem, hc]; try omega) rfl ?_
      exact ⟨rfl, hBF⟩
    have hltI : decide ((k : Int) ≤ h.last) = true := by rw [HN.out]; simp; omega
    have HC := Lib.hid (HBD.out k (by have := HN.out; omega) wr HB.out.1)
    obtain ⟨r, hr⟩ : ∃ r, bndR h turns l k = r := ⟨_, rfl⟩
    rw [show bndTo h turns k l es.length = r from by rw [← HLL.out]; exact hr] at HC
    obtain ⟨lo, hi⟩ := r
    have HRR := Lib.hid hr
    clear hr
    go_wp2_with fail
    refine HC.out.mono ?_
    rintro e W2 ⟨rfl, hb⟩
    have HB2 := Lib.hid (bgo HB.out.1 hb)
    have h20 := (hb.block _ hz0).trans HBK.out.1
    have h21 := (hb.block _ hz1).trans HBK.out.2
    have HBK2 := Lib.hid (And.intro h20 h21)
    clear hc0 hc1 hb HC
    obtain ⟨hc0, _, hs0⟩ := cells_of_block h20
    obtain ⟨hc1, _, hs1⟩ := cells_of_block h21
    clear h20 h21
    cases hA : decide (h.burn < hi)
    · cases hD : decide (lo < h.die)
      · have HAD := Lib.hid (And.intro hA hD)
        go_wp2_with fail
        go_roundw
        case rel =>
          refine ⟨k + 1, by omega, by go_num, ⟨?_, ?_⟩, ?_, fun j hj => ?_⟩
          · exact (Below.heap_alloc _ _ _ (by first | omega | (simp; done) | (simp; omega))).trans HBK2.out.1
          · exact (Below.heap_alloc _ _ _ (by first | omega | (simp; done) | (simp; omega))).trans HBK2.out.2
          · exact bgoAlloc HB2.out _
          · by_cases e : j = k
            · subst e
              rw [HRR.out]
              simp only [fearB, HAD.out.1, HAD.out.2, Bool.or_self]
            · exact HB.out.2 j (by omega)
        case measure => simp [intOf]; omega
      · obtain rfl : q = .tuple #[.agg #[iv (k : Int), .bool false, .bool true], .bool true] := by
          rw [← HQ.out]
          unfold fearRV
          rw [fearR_at (k := k) (by have := HN.out; omega) HB.out.2 (by rw [HRR.out]; simp only [fearB, hA, hD, Bool.or_true])]
          simp only [HRR.out, hA, hD]
        go_wp2_with fail
        obtain ⟨WF, hWF⟩ : ∃ WF, (((W2.setCell ⟨w.heap.size + 1, 0, none⟩ (iv (k : Int))).setCell ⟨w.heap.size + 1, 1, none⟩ (.bool false)).setCell ⟨w.heap.size + 1, 2, none⟩ (.bool true)).alloc (.cells #[iv lo, iv hi] 23) = WF := ⟨_, rfl⟩
        have hBF : Below w.heap.size w WF := by rw [← hWF]; exact bgoAlloc (bgoSet (bgoSet (bgoSet HB2.out (by simp) _) (by simp) _) (by simp) _) _
        obtain ⟨hc, _, _⟩ := cells_of_block (show WF.heap[w.heap.size + 1]? = some (.cells #[iv (k : Int), .bool false, .bool true] 48 (0, 0)) from by rw [← hWF]; exact (Below.heap_alloc _ _ _ (by simp only [World.setCell, Array.size_modify]; exact hs1)).trans (set_block (set_block (set_block HBK2.out.2 _) _) _))
        rw [hWF]
        clear hc0 hc1 hWF
        (try simp only [Exit.inBlock, Exit.then])
        refine bodyPost_ret (v := .tuple #[.agg #[iv (k : Int), .bool false, .bool true], .bool true]) (by simp [results, Try.results26, go_sem, hc]; try omega) rfl ?_
        exact ⟨rfl, hBF⟩
    · obtain rfl : q = .tuple #[.agg #[iv (k : Int), .bool true, .bool (decide (lo < h.die))], .bool true] := by
        rw [← HQ.out]
        unfold fearRV
        rw [fearR_at (k := k) (by have := HN.out; omega) HB.out.2 (by rw [HRR.out]; simp only [fearB, hA, Bool.true_or])]
        simp only [HRR.out, hA]
      go_wp2_with fail
      obtain ⟨WF, hWF⟩ : ∃ WF, (((W2.setCell ⟨w.heap.size + 1, 0, none⟩ (iv (k : Int))).setCell ⟨w.heap.size + 1, 1, none⟩ (.bool true)).setCell ⟨w.heap.size + 1, 2, none⟩ (.bool (decide (lo < h.die)))).alloc (.cells #[iv lo, iv hi] 23) = WF := ⟨_, rfl⟩
      have hBF : Below w.heap.size w WF := by rw [← hWF]; exact bgoAlloc (bgoSet (bgoSet (bgoSet HB2.out (by simp) _) (by simp) _) (by simp) _) _
      obtain ⟨hc, _, _⟩ := cells_of_block (show WF.heap[w.heap.size + 1]? = some (.cells #[iv (k : Int), .bool true, .bool (decide (lo < h.die))] 48 (0, 0)) from by rw [← hWF]; exact (Below.heap_alloc _ _ _ (by simp only [World.setCell, Array.size_modify]; exact hs1)).trans (set_block (set_block (set_block HBK2.out.2 _) _) _))
      rw [hWF]
      clear hc0 hc1 hWF
      (try simp only [Exit.inBlock, Exit.then])
      refine bodyPost_ret (v := .tuple #[.agg #[iv (k : Int), .bool true, .bool (decide (lo < h.die))], .bool true]) (by simp [results, Try.results26, go_sem, hc]; try omega) rfl ?_
      exact ⟨rfl, hBF⟩

end Go.Proofs.Ytoibfafmnaooaaa

namespace Go.Proofs.Ytoibfafmnaooaaa
open Cou

theorem truthsTo_mem (h : HeapD) (t : Int × List Int) : ∀ k, t ∈ truthsTo h k ↔ ∃ j : Nat, j < k ∧ nthT h (j : Int) = t ∧ bitsR h t h.readings.length = 2 ^ h.readings.length - 1 := by
  intro k
  induction k with
  | zero => simp [truthsTo]
  | succ k ih =>
    unfold truthsTo
    have hsplit : ∀ P : Nat → Prop, (∃ j, j < k + 1 ∧ P j) ↔ (∃ j, j < k ∧ P j) ∨ P k := fun P =>
      ⟨fun ⟨j, h1, h2⟩ => by
        by_cases e : j = k
        · subst e; exact .inr h2
        · exact .inl ⟨j, by omega, h2⟩,
      fun h => h.elim (fun ⟨j, h1, h2⟩ => ⟨j, by omega, h2⟩) (fun h2 => ⟨k, by omega, h2⟩)⟩
    rw [hsplit]
    split
    · rename_i hc
      rw [List.mem_append, ih, List.mem_singleton]
      refine or_congr Iff.rfl ⟨fun e => ?_, fun e => e.1.symm⟩
      subst e
      exact ⟨rfl, by simpa using hc⟩
    · rename_i hc
      rw [ih]
      refine ⟨fun h => .inl h, fun h => h.elim id fun h2 => ?_⟩
      obtain ⟨h3, h4⟩ := h2
      subst h3
      exact absurd (by simpa using h4) hc

theorem bits_all (h : HeapD) (t : Int × List Int) : bitsR h t h.readings.length = 2 ^ h.readings.length - 1 ↔ ∀ j, j < h.readings.length → rightB h t (h.readings.getD j (0, 0, 0)) = true := by
  constructor
  · intro e j hj
    have := congrArg (fun n => n.testBit j) e
    simp only [bitsR_at, Nat.testBit_two_pow_sub_one, hj, decide_true, Bool.true_and] at this
    exact this
  · intro hh
    apply Nat.eq_of_testBit_eq
    intro j
    rw [bitsR_at, Nat.testBit_two_pow_sub_one]
    by_cases hj : j < h.readings.length
    · rw [hh j hj]; simp [hj]
    · simp [hj]

theorem truthsR_mem {h : HeapD} (hS : Sound h) (t : Int × List Int) : t ∈ truthsR h ↔ t ∈ truthsL h [] := by
  have hright : ∀ n : Int, ∀ x ∈ h.readings, rightB h (nthT h n) x = rightR x (heats h (nthT h n) h.turns) := fun n x hx => right_eq hS (nthT_listed hS n) hx
  unfold truthsR truthsL
  rw [truthsTo_mem, List.mem_map]
  constructor
  · rintro ⟨j, hj, rfl, hb⟩
    obtain ⟨x, hx, hxt⟩ := nthT_mem hS (j : Int)
    rw [bits_all] at hb
    refine ⟨x, List.mem_filter.2 ⟨hx, ?_⟩, hxt⟩
    rw [hxt, okT_all, List.all_eq_true]
    intro y hy
    obtain ⟨i, hi, rfl⟩ := List.getElem_of_mem hy
    have := hb i hi
    rw [show h.readings.getD i (0, 0, 0) = h.readings[i] from by simp [List.getD, hi]] at this
    rw [← hright _ _ hy]
    exact this
  · rintro ⟨x, hx, rfl⟩
    obtain ⟨hx1, hx2⟩ := List.mem_filter.1 hx
    obtain ⟨n, h0, h1, h2⟩ := nthT_all hS hx1
    obtain ⟨k, rfl⟩ := Int.eq_ofNat_of_zero_le h0
    refine ⟨k, by omega, h2, ?_⟩
    rw [bits_all]
    intro j hj
    have hy : h.readings[j] ∈ h.readings := List.getElem_mem hj
    rw [show h.readings.getD j (0, 0, 0) = h.readings[j] from by simp [List.getD, hj], ← h2, hright _ _ hy, h2]
    rw [okT_all, List.all_eq_true] at hx2
    exact hx2 _ hy

theorem bndTo_at {h : HeapD} {turns : List Int} {i : Nat} {l : List (Int × List Int)} (hb : ∀ t ∈ l, 0 ≤ heatI h turns i t ∧ heatI h turns i t ≤ 2000) : ∀ k, k ≤ l.length →
    (∀ t ∈ l.take k, (bndTo h turns i l k).1 ≤ heatI h turns i t ∧ heatI h turns i t ≤ (bndTo h turns i l k).2) ∧
    (k ≠ 0 → (∃ t ∈ l, (bndTo h turns i l k).1 = heatI h turns i t) ∧ ∃ t ∈ l, (bndTo h turns i l k).2 = heatI h turns i t) := by
  intro k
  induction k with
  | zero => intro _; exact ⟨fun t ht => by simp at ht, fun h => absurd rfl h⟩
  | succ k ih =>
    intro hk
    obtain ⟨h1, h2⟩ := ih (by omega)
    have hk' : k < l.length := by omega
    have hg : l.getD k (0, []) = l[k] := by simp [List.getD, hk']
    have hm : l[k] ∈ l := List.getElem_mem hk'
    have hbk := hb _ hm
    have e1 : (bndTo h turns i l (k + 1)).1 = min (bndTo h turns i l k).1 (heatI h turns i l[k]) := by rw [bndTo, hg]
    have e2 : (bndTo h turns i l (k + 1)).2 = max (bndTo h turns i l k).2 (heatI h turns i l[k]) := by rw [bndTo, hg]
    rw [e1, e2]
    refine ⟨fun t ht => ?_, fun _ => ?_⟩
    · rw [List.take_succ_eq_append_getElem hk', List.mem_append] at ht
      rcases ht with ht | ht
      · have := h1 t ht; omega
      · obtain rfl : t = l[k] := by simpa using ht
        omega
    · by_cases e : k = 0
      · subst e
        have b0 : bndTo h turns i l 0 = (1099511627776, -1) := rfl
        rw [b0]
        exact ⟨⟨l[0], hm, by simp only; omega⟩, ⟨l[0], hm, by simp only; omega⟩⟩
      · obtain ⟨⟨t1, ht1, k1⟩, t2, ht2, k2⟩ := h2 e
        refine ⟨?_, ?_⟩
        · by_cases c : (bndTo h turns i l k).1 ≤ heatI h turns i l[k]
          · exact ⟨t1, ht1, by rw [← k1]; omega⟩
          · exact ⟨l[k], hm, by omega⟩
        · by_cases c : heatI h turns i l[k] ≤ (bndTo h turns i l k).2
          · exact ⟨t2, ht2, by rw [← k2]; omega⟩
          · exact ⟨l[k], hm, by omega⟩

theorem heatI_at {h : HeapD} {turns : List Int} {i : Nat} {t : Int × List Int} (hi : i < t.2.length) (h10 : i < 10) : (heats h t turns).getD i 0 = heatI h turns i t := by
  unfold heats heatsTo heatI
  simp [List.getD, h10, hi]

theorem bndR_at {h : HeapD} (hS : Sound h) {turns : List Int} (ht : (truthsL h []).isEmpty = false) {i : Nat} (hi : i < (h.last + 1).toNat) :
    bndR h turns (truthsR h) i = (boundsL (h.last + 1).toNat (everyL h turns)).getD i (0, 0) ∧ (bndR h turns (truthsR h) i).1 ≤ (bndR h turns (truthsR h) i).2 := by
  have hl9 := hS.last9
  have hwl := hS.wetLen
  have hget : ∀ t ∈ truthsL h [], (heats h t turns).getD i 0 = heatI h turns i t := fun t hm => heatI_at (by have := (truth_bd hS hm).1; omega) (by omega)
  have hb : ∀ t ∈ truthsR h, 0 ≤ heatI h turns i t ∧ heatI h turns i t ≤ 2000 := fun t hm => by
    obtain ⟨h1, h2, h3⟩ := truth_bd hS ((truthsR_mem hS t).1 hm)
    have := heatAt_bd turns t.2 hS.size0 hS.size1 hS.cool0 hS.cool1 h2.1 h2.2 h3 (i + 1)
    unfold heatI
    omega
  obtain ⟨t0, ht0⟩ : ∃ t0, t0 ∈ truthsL h [] := by
    cases hl : truthsL h [] with
    | nil => rw [hl] at ht; cases ht
    | cons a l => exact ⟨a, List.mem_cons_self⟩
  have hne : (truthsR h).length ≠ 0 := fun e => by
    have := (truthsR_mem hS t0).2 ht0
    rw [List.eq_nil_of_length_eq_zero e] at this
    cases this
  obtain ⟨g1, g2⟩ := bndTo_at hb _ (Nat.le_refl _)
  obtain ⟨⟨a, ha, ea⟩, b, hb2, eb⟩ := g2 hne
  rw [List.take_length] at g1
  obtain ⟨k1, ⟨y1, hy1, ey1⟩, y2, hy2, ey2⟩ := boundsL_at (n := (h.last + 1).toNat) (every_ne (turns := turns) ht) hi
  obtain ⟨t1, ht1, rfl⟩ := (mem_everyL h turns y1).1 hy1
  obtain ⟨t2, ht2, rfl⟩ := (mem_everyL h turns y2).1 hy2
  rw [hget _ ht1] at ey1
  rw [hget _ ht2] at ey2
  have ha' := (truthsR_mem hS a).1 ha
  have hb' := (truthsR_mem hS b).1 hb2
  have q1 := k1 _ ((mem_everyL h turns _).2 ⟨a, ha', rfl⟩)
  have q2 := k1 _ ((mem_everyL h turns _).2 ⟨b, hb', rfl⟩)
  rw [hget _ ha'] at q1
  rw [hget _ hb'] at q2
  have q3 := g1 t1 ((truthsR_mem hS t1).2 ht1)
  have q4 := g1 t2 ((truthsR_mem hS t2).2 ht2)
  have q5 := g1 a ha
  change (∀ t ∈ truthsR h, (bndR h turns (truthsR h) i).1 ≤ heatI h turns i t ∧ heatI h turns i t ≤ (bndR h turns (truthsR h) i).2) at g1
  change (bndR h turns (truthsR h) i).1 = _ at ea
  change (bndR h turns (truthsR h) i).2 = _ at eb
  change (bndR h turns (truthsR h) i).1 ≤ _ ∧ _ ≤ (bndR h turns (truthsR h) i).2 at q3 q4 q5
  refine ⟨Prod.ext ?_ ?_, ?_⟩ <;> omega

theorem fearAt_eq {h : HeapD} {r : Rng} (hr : r.1 ≤ r.2) : fearAt h r = fearB h r := by
  unfold fearAt fearB lostB
  rw [Bool.eq_iff_iff]
  simp only [Bool.or_eq_true, decide_eq_true_eq]
  omega
theorem fearD_eq {h : HeapD} {r : Rng} (hr : r.1 ≤ r.2) (i : Nat) : fearD h r i = ((i : Int), decide (h.burn < r.2), decide (r.1 < h.die)) := by
  unfold fearD
  have e1 : (decide (h.burn < r.1) || decide (h.burn < r.2)) = decide (h.burn < r.2) := by
    rw [Bool.eq_iff_iff]; simp only [Bool.or_eq_true, decide_eq_true_eq]; omega
  have e2 : (decide (r.1 < h.die) || decide (r.2 < h.die)) = decide (r.1 < h.die) := by
    rw [Bool.eq_iff_iff]; simp only [Bool.or_eq_true, decide_eq_true_eq]; omega
  rw [e1, e2]

/-- The first danger: the reference's is the program's. -/
theorem fear_eq {h : HeapD} {turns : List Int} (hask : askErr h turns = 0) (ht : (truthsL h []).isEmpty = false) :
    (∀ i, fearR h turns (truthsR h) = some i → fearErr h turns = 0 ∧ fearOut h turns = ((i : Int), decide (h.burn < (bndR h turns (truthsR h) i).2), decide ((bndR h turns (truthsR h) i).1 < h.die))) ∧
    (fearR h turns (truthsR h) = none → fearErr h turns = 7 ∧ fearOut h turns = (0, false, false)) := by
  have hS := ask_sound hask
  have hbo : boundsOut h turns = boundsL (h.last + 1).toNat (everyL h turns) := by unfold boundsOut; rw [if_pos hask]
  have hlen : (boundsL (h.last + 1).toNat (everyL h turns)).length = (h.last + 1).toNat := boundsL_len (every_ne ht)
  have hat : ∀ j (hj : j < (boundsL (h.last + 1).toNat (everyL h turns)).length), (boundsL (h.last + 1).toNat (everyL h turns))[j] = bndR h turns (truthsR h) j ∧ (bndR h turns (truthsR h) j).1 ≤ (bndR h turns (truthsR h) j).2 := fun j hj => by
    obtain ⟨h1, h2⟩ := bndR_at hS ht (turns := turns) (i := j) (by omega)
    refine ⟨?_, h2⟩
    rw [h1]
    simp [List.getD, hj]
  have key : ∀ o, fearFrom h (boundsOut h turns) 0 = o → fearErr h turns = (if o.isSome then 0 else 7) ∧ fearOut h turns = o.getD (0, false, false) := fun o ho => by
    unfold fearErr fearOut
    rw [if_neg (by rw [hask]; simp), ho]
    exact ⟨rfl, rfl⟩
  constructor
  · intro i hi
    unfold fearR at hi
    rw [List.find?_range_eq_some] at hi
    obtain ⟨h1, h2, h3⟩ := hi
    have h2' : i < (h.last + 1).toNat := by simpa using h2
    have hil : i < (boundsL (h.last + 1).toNat (everyL h turns)).length := by omega
    have := fearFrom_at h (boundsL (h.last + 1).toNat (everyL h turns)) i 0 hil (fun j hj => by
      obtain ⟨e1, e2⟩ := hat j (by omega)
      rw [e1, fearAt_eq e2]
      simpa using h3 j hj) (by
      obtain ⟨e1, e2⟩ := hat i hil
      rw [e1, fearAt_eq e2]
      exact h1)
    obtain ⟨e1, e2⟩ := hat i hil
    rw [e1, fearD_eq e2, Nat.zero_add, ← hbo] at this
    exact key _ this
  · intro hn
    unfold fearR at hn
    rw [List.find?_eq_none] at hn
    have := fearFrom_no h (boundsL (h.last + 1).toNat (everyL h turns)) 0 (fun j hj => by
      obtain ⟨e1, e2⟩ := hat j hj
      rw [e1, fearAt_eq e2]
      have := hn j (List.mem_range.2 (by omega))
      simpa using this)
    rw [← hbo] at this
    exact key _ this

end Go.Proofs.Ytoibfafmnaooaaa

/-
  Contracts of the reference: Bounds, Kept, Keeps, Fear; of the law: sure.
  Contract of the reference: Fear.
  The plain laws of chapter 4, fifth part: the reference's truths are the heap's; its bounds are the program's. No program in sight.
-/
import Derived.WalkKit
import Derived.WalkLawsBesides
import Derived.WalkSpells
import Derived.Outline
import Derived.Handy
import Derived.KernelRfl
import Derived.Lib.Hide
import Derived.Test.YtoibfafmnaooaaaGreatSC
import Derived.Test.YtoibfafmnaooaaaGreatML
namespace Go.Proofs.YtoibfafmnaooaaaGreat
open Go.RowKit Go.RG Go.SL Go.Shelf Cou
set_option maxHeartbeats 400000
set_option maxRecDepth 10000

def heatI (h : HeapD) (turns : List Int) (i : Nat) (t : Int × List Int) : Int := heatAt h.size h.cool turns t.1 t.2 (i + 1)
/-- Bounds of the first k truths. -/
def bndTo (h : HeapD) (turns : List Int) (i : Nat) (l : List (Int × List Int)) : Nat → Rng
  | 0 => (1099511627776, -1)
  | k + 1 => (min (bndTo h turns i l k).1 (heatI h turns i (l.getD k (0, []))), max (bndTo h turns i l k).2 (heatI h turns i (l.getD k (0, []))))

def sureE (h : HeapD) : Int := if fault h ≠ 0 then fault h else if (truthsR h).length = 0 then 11 else 0
def sureL (h : HeapD) : List (Int × List Int) := if fault h ≠ 0 then [] else truthsR h

/-- What sure returns. -/
def PSure (l : List (Int × List Int)) (E : Int) (w : World) (e : Ending) (w' : World) : Prop := ∃ v es, e = .returned (.tuple #[v, iv E]) ∧ TEAt w' v es ∧ es.map teP = l ∧ (∀ e ∈ es, IntsAt w' e.2.1 e.2.2) ∧ Below w.heap.size w w'

theorem tes_nil (w : World) : TEAt w (.slice none 0 0) [] := SlAt.of_owns (base := 0) (e := 55) ⟨rfl, .inl ⟨rfl, rfl⟩⟩

set_option maxHeartbeats 2000000 in
theorem sure_any (h : HeapD) (wv tv xv' : Value) (w : World) (hw : PairsAt w wv h.wet) (ht : IntsAt w tv h.turns) (hx : TriplesAt w xv' h.readings) :
    Calls Tryz.prog 10 #[hv h wv tv xv'] w (PSure (sureL h) (sureE h) w) := by
  obtain ⟨ow, cw, rfl⟩ := hw.open
  obtain ⟨ot, ct, rfl⟩ := ht.open
  obtain ⟨ox, cx, rfl⟩ := hx.open
  have HW := Lib.hid hw
  have HT := Lib.hid ht
  have HX := Lib.hid hx
  clear hw ht hx
  obtain ⟨f, hf⟩ : ∃ f, fault h = f := ⟨_, rfl⟩
  have HFA := Lib.hid (fun (W : World) (h1 : PairsAt W (.slice ow h.wet.length cw) h.wet) (h2 : IntsAt W (.slice ot h.turns.length ct) h.turns) (h3 : TriplesAt W (.slice ox h.readings.length cx) h.readings) => lawFault_any h _ _ _ W h1 h2 h3)
  rw [hf] at HFA
  by_cases hf0 : f = 0
  case neg =>
    have HE := Lib.hid (show sureL h = [] ∧ sureE h = f from ⟨by unfold sureL; rw [if_pos (by rw [hf]; exact hf0)], by unfold sureE; rw [if_pos (by rw [hf]; exact hf0), hf]⟩)
    have hfn : (f != 0) = true := by simpa using hf0
    rw [HE.out.1, HE.out.2]
    clear hf hf0 HE
    go_enter Tryz.func10, Tryz.ntmps10
    go_wp2_with fail
    refine gcallsW fun W1 hW1 => ?_
    have HB1 := Lib.hid (show Below w.heap.size w W1 from by rw [hW1]; exact (by repeat (first | exact Below.refl _ _ | assumption | refine bgo ?_ (by assumption) | refine bgoAlloc ?_ _ | refine bgoDrew ?_ | refine bgoSet ?_ (by simp; omega) _)))
    clear hW1
    refine (HFA.out _ (HW.out.below HB1.out (Nat.le_refl _)) (HT.out.below HB1.out (Nat.le_refl _)) (HX.out.below HB1.out (Nat.le_refl _))).mono ?_
    rintro e W2 ⟨rfl, hb⟩
    have HB2 := Lib.hid (bgo HB1.out hb)
    clear hb HFA
    go_wp2_with fail
    go_returns
    exact ⟨.slice none 0 0, [], by simp, tes_nil _, rfl, (fun e he => by cases he), HB2.out⟩
  case pos =>
    subst hf0
    have HS := Lib.hid (sound_of hf)
    obtain ⟨T, hT⟩ : ∃ T, truthsR h = T := ⟨_, rfl⟩
    have HE := Lib.hid (show sureL h = T ∧ sureE h = (if T.length = 0 then 11 else 0) from ⟨by unfold sureL; rw [if_neg (by rw [hf]; simp), hT], by unfold sureE; rw [if_neg (by rw [hf]; simp), hT]⟩)
    have HTR := Lib.hid (fun (W : World) (h1 : PairsAt W (.slice ow h.wet.length cw) h.wet) (h2 : IntsAt W (.slice ot h.turns.length ct) h.turns) (h3 : TriplesAt W (.slice ox h.readings.length cx) h.readings) => Truths_any h HS.out _ _ _ W h1 h2 h3)
    rw [hT] at HTR
    obtain ⟨E, hE⟩ : ∃ E, sureE h = E := ⟨_, rfl⟩
    have HE2 : Hid (E = (if T.length = 0 then 11 else 0)) := Lib.hid (by rw [← hE]; exact HE.out.2)
    rw [HE.out.1, hE]
    clear hf hT HE HS hE
    go_enter Tryz.func10, Tryz.ntmps10
    go_wp2_with fail
    refine gcallsW fun W1 hW1 => ?_
    have HB1 := Lib.hid (show Below w.heap.size w W1 from by rw [hW1]; exact (by repeat (first | exact Below.refl _ _ | assumption | refine bgo ?_ (by assumption) | refine bgoAlloc ?_ _ | refine bgoDrew ?_ | refine bgoSet ?_ (by simp; omega) _)))
    have HX1 := Lib.hid (show W1.heap[w.heap.size]? = some (.cells #[.int .i64 h.last, .int .i64 h.size, .int .i64 h.cool, .int .i64 h.die, .int .i64 h.burn, .int .i64 h.start.1, .int .i64 h.start.2, .slice ow h.wet.length cw, .slice ot h.turns.length ct, .slice ox h.readings.length cx] 28 (0, 0)) from by rw [hW1]; exact heap_new0 _ _)
    have hlt1 := (cells_of_block HX1.out).2.2
    clear hW1
    refine (HFA.out _ (HW.out.below HB1.out (Nat.le_refl _)) (HT.out.below HB1.out (Nat.le_refl _)) (HX.out.below HB1.out (Nat.le_refl _))).mono ?_
    rintro e W2 ⟨rfl, hb⟩
    have HB2 := Lib.hid (bgo HB1.out hb)
    obtain ⟨hc2, _, hs2⟩ := cells_of_block ((hb.block _ hlt1).trans HX1.out)
    clear hb HFA
    go_wp2_with fail
    refine (HTR.out _ (HW.out.below HB2.out (Nat.le_refl _)) (HT.out.below HB2.out (Nat.le_refl _)) (HX.out.below HB2.out (Nat.le_refl _))).mono ?_
    rintro e W3 ⟨v, es, rfl, hv, hes, hi, hb⟩
    have HB3 := Lib.hid (bgo HB2.out hb)
    obtain ⟨oe, ce, rfl⟩ := TEAt.open hv
    have hln := hv.len
    have HV := Lib.hid (And.intro hv (And.intro hes hi))
    have hle : T.length = es.length := by rw [← hes]; simp
    have HLE := Lib.hid hle
    clear hle
    clear hb hv hes hi HTR hc2 hs2
    by_cases h0 : es.length = 0
    · have h0b : ((es.length : Int) == 0) = true := by simp [h0]
      obtain rfl : E = 11 := by rw [HE2.out, if_pos (by rw [HLE.out]; exact h0)]
      obtain rfl : T = [] := List.eq_nil_of_length_eq_zero (by rw [HLE.out]; exact h0)
      clear h0
      go_wp2_with fail
      go_returns
      exact ⟨.slice none 0 0, [], by simp, tes_nil _, rfl, (fun e he => by cases he), HB3.out⟩
    · have h0b : ((es.length : Int) == 0) = false := by rw [beq_eq_false_iff_ne]; omega
      obtain rfl : E = 0 := by rw [HE2.out, if_neg (by rw [HLE.out]; exact h0)]
      clear h0
      go_wp2_with fail
      go_returns
      exact ⟨.slice oe es.length ce, es, by simp, HV.out.1, HV.out.2.1, HV.out.2.2, HB3.out⟩

end Go.Proofs.YtoibfafmnaooaaaGreat

namespace Go.Proofs.YtoibfafmnaooaaaGreat
open Go.RowKit Go.RG Go.SL Go.Shelf Cou
set_option maxHeartbeats 400000
set_option maxRecDepth 10000

def bndR (h : HeapD) (turns : List Int) (l : List (Int × List Int)) (i : Nat) : Rng := bndTo h turns i l l.length
def fearB (h : HeapD) (r : Rng) : Bool := decide (h.burn < r.2) || decide (r.1 < h.die)
def fearR (h : HeapD) (turns : List Int) (l : List (Int × List Int)) : Option Nat := (List.range (h.last + 1).toNat).find? fun i => fearB h (bndR h turns l i)
def fearRV (h : HeapD) (turns : List Int) (l : List (Int × List Int)) : Value := match fearR h turns l with
  | some i => .tuple #[.agg #[iv (i : Int), .bool (decide (h.burn < (bndR h turns l i).2)), .bool (decide ((bndR h turns l i).1 < h.die))], .bool true]
  | none => .tuple #[.agg #[iv 0, .bool false, .bool false], .bool false]

theorem fearR_at {h : HeapD} {turns : List Int} {l : List (Int × List Int)} {k : Nat} (hk : k < (h.last + 1).toNat) (h1 : ∀ j, j < k → fearB h (bndR h turns l j) = false) (h2 : fearB h (bndR h turns l k) = true) : fearR h turns l = some k := by
  unfold fearR
  rw [List.find?_range_eq_some]
  exact ⟨h2, by simpa using hk, fun j hj => by rw [h1 j hj]; rfl⟩
theorem fearR_no {h : HeapD} {turns : List Int} {l : List (Int × List Int)} (h1 : ∀ j, j < (h.last + 1).toNat → fearB h (bndR h turns l j) = false) : fearR h turns l = none := by
  unfold fearR
  rw [List.find?_eq_none]
  intro j hj
  rw [h1 j (List.mem_range.1 hj)]
  simp

end Go.Proofs.YtoibfafmnaooaaaGreat

namespace Go.Proofs.YtoibfafmnaooaaaGreat
open Cou

theorem truthsTo_mem (h : HeapD) (t : Int × List Int) : ∀ k, t ∈ truthsTo h k ↔ ∃ j : Nat, j < k ∧ nthT h (j : Int) = t ∧ bitsR h t h.readings.length = 2 ^ h.readings.length - 1 := by
  intro k
  induction k with
  | zero => simp [truthsTo]
  | succ k ih =>
    unfold truthsTo
    have hsplit : ∀ P : Nat → Prop, (∃ j, j < k + 1 ∧ P j) ↔ (∃ j, j < k ∧ P j) ∨ P k := fun P =>
      ⟨fun ⟨j, h1, h2⟩ => by
        by_cases e : j = k
        · subst e; exact .inr h2
        · exact .inl ⟨j, by omega, h2⟩,
      fun h => h.elim (fun ⟨j, h1, h2⟩ => ⟨j, by omega, h2⟩) (fun h2 => ⟨k, by omega, h2⟩)⟩
    rw [hsplit]
    split
    · rename_i hc
      rw [List.mem_append, ih, List.mem_singleton]
      refine or_congr Iff.rfl ⟨fun e => ?_, fun e => e.1.symm⟩
      subst e
      exact ⟨rfl, by simpa using hc⟩
    · rename_i hc
      rw [ih]
      refine ⟨fun h => .inl h, fun h => h.elim id fun h2 => ?_⟩
      obtain ⟨h3, h4⟩ := h2
      subst h3
      exact absurd (by simpa using h4) hc

theorem bits_all (h : HeapD) (t : Int × List Int) : bitsR h t h.readings.length = 2 ^ h.readings.length - 1 ↔ ∀ j, j < h.readings.length → rightB h t (h.readings.getD j (0, 0, 0)) = true := by
  constructor
  · intro e j hj
    have := congrArg (fun n => n.testBit j) e
    simp only [bitsR_at, Nat.testBit_two_pow_sub_one, hj, decide_true, Bool.true_and] at this
    exact this
  · intro hh
    apply Nat.eq_of_testBit_eq
    intro j
    rw [bitsR_at, Nat.testBit_two_pow_sub_one]
    by_cases hj : j < h.readings.length
    · rw [hh j hj]; simp [hj]
    · simp [hj]

theorem truthsR_mem {h : HeapD} (hS : Sound h) (t : Int × List Int) : t ∈ truthsR h ↔ t ∈ truthsL h [] := by
  have hright : ∀ n : Int, ∀ x ∈ h.readings, rightB h (nthT h n) x = rightR x (heats h (nthT h n) h.turns) := fun n x hx => right_eq hS (nthT_listed hS n) hx
  unfold truthsR truthsL
  rw [truthsTo_mem, List.mem_map]
  constructor
  · rintro ⟨j, hj, rfl, hb⟩
    obtain ⟨x, hx, hxt⟩ := nthT_mem hS (j : Int)
    rw [bits_all] at hb
    refine ⟨x, List.mem_filter.2 ⟨hx, ?_⟩, hxt⟩
    rw [hxt, okT_all, List.all_eq_true]
    intro y hy
    obtain ⟨i, hi, rfl⟩ := List.getElem_of_mem hy
    have := hb i hi
    rw [show h.readings.getD i (0, 0, 0) = h.readings[i] from by simp [List.getD, hi]] at this
    rw [← hright _ _ hy]
    exact this
  · rintro ⟨x, hx, rfl⟩
    obtain ⟨hx1, hx2⟩ := List.mem_filter.1 hx
    obtain ⟨n, h0, h1, h2⟩ := nthT_all hS hx1
    obtain ⟨k, rfl⟩ := Int.eq_ofNat_of_zero_le h0
    refine ⟨k, by omega, h2, ?_⟩
    rw [bits_all]
    intro j hj
    have hy : h.readings[j] ∈ h.readings := List.getElem_mem hj
    rw [show h.readings.getD j (0, 0, 0) = h.readings[j] from by simp [List.getD, hj], ← h2, hright _ _ hy, h2]
    rw [okT_all, List.all_eq_true] at hx2
    exact hx2 _ hy

theorem bndTo_at {h : HeapD} {turns : List Int} {i : Nat} {l : List (Int × List Int)} (hb : ∀ t ∈ l, 0 ≤ heatI h turns i t ∧ heatI h turns i t ≤ 2000) : ∀ k, k ≤ l.length →
    (∀ t ∈ l.take k, (bndTo h turns i l k).1 ≤ heatI h turns i t ∧ heatI h turns i t ≤ (bndTo h turns i l k).2) ∧
    (k ≠ 0 → (∃ t ∈ l, (bndTo h turns i l k).1 = heatI h turns i t) ∧ ∃ t ∈ l, (bndTo h turns i l k).2 = heatI h turns i t) := by
  intro k
  induction k with
  | zero => intro _; exact ⟨fun t ht => by simp at ht, fun h => absurd rfl h⟩
  | succ k ih =>
    intro hk
    obtain ⟨h1, h2⟩ := ih (by omega)
    have hk' : k < l.length := by omega
    have hg : l.getD k (0, []) = l[k] := by simp [List.getD, hk']
    have hm : l[k] ∈ l := List.getElem_mem hk'
    have hbk := hb _ hm
    have e1 : (bndTo h turns i l (k + 1)).1 = min (bndTo h turns i l k).1 (heatI h turns i l[k]) := by rw [bndTo, hg]
    have e2 : (bndTo h turns i l (k + 1)).2 = max (bndTo h turns i l k).2 (heatI h turns i l[k]) := by rw [bndTo, hg]
    rw [e1, e2]
    refine ⟨fun t ht => ?_, fun _ => ?_⟩
    · rw [List.take_succ_eq_append_getElem hk', List.mem_append] at ht
      rcases ht with ht | ht
      · have := h1 t ht; omega
      · obtain rfl : t = l[k] := by simpa using ht
        omega
    · by_cases e : k = 0
      · subst e
        have b0 : bndTo h turns i l 0 = (1099511627776, -1) := rfl
        rw [b0]
        exact ⟨⟨l[0], hm, by simp only; omega⟩, ⟨l[0], hm, by simp only; omega⟩⟩
      · obtain ⟨⟨t1, ht1, k1⟩, t2, ht2, k2⟩ := h2 e
        refine ⟨?_, ?_⟩
        · by_cases c : (bndTo h turns i l k).1 ≤ heatI h turns i l[k]
          · exact ⟨t1, ht1, by rw [← k1]; omega⟩
          · exact ⟨l[k], hm, by omega⟩
        · by_cases c : heatI h turns i l[k] ≤ (bndTo h turns i l k).2
          · exact ⟨t2, ht2, by rw [← k2]; omega⟩
          · exact ⟨l[k], hm, by omega⟩

theorem heatI_at {h : HeapD} {turns : List Int} {i : Nat} {t : Int × List Int} (hi : i < t.2.length) (h10 : i < 10) : (heats h t turns).getD i 0 = heatI h turns i t := by
  unfold heats heatsTo heatI
  simp [List.getD, h10, hi]

theorem bndR_at {h : HeapD} (hS : Sound h) {turns : List Int} (ht : (truthsL h []).isEmpty = false) {i : Nat} (hi : i < (h.last + 1).toNat) :
    bndR h turns (truthsR h) i = (boundsL (h.last + 1).toNat (everyL h turns)).getD i (0, 0) ∧ (bndR h turns (truthsR h) i).1 ≤ (bndR h turns (truthsR h) i).2 := by
  have hl9 := hS.last9
  have hwl := hS.wetLen
  have hget : ∀ t ∈ truthsL h [], (heats h t turns).getD i 0 = heatI h turns i t := fun t hm => heatI_at (by have := (truth_bd hS hm).1; omega) (by omega)
  have hb : ∀ t ∈ truthsR h, 0 ≤ heatI h turns i t ∧ heatI h turns i t ≤ 2000 := fun t hm => by
    obtain ⟨h1, h2, h3⟩ := truth_bd hS ((truthsR_mem hS t).1 hm)
    have := heatAt_bd turns t.2 hS.size0 hS.size1 hS.cool0 hS.cool1 h2.1 h2.2 h3 (i + 1)
    unfold heatI
    omega
  obtain ⟨t0, ht0⟩ : ∃ t0, t0 ∈ truthsL h [] := by
    cases hl : truthsL h [] with
    | nil => rw [hl] at ht; cases ht
    | cons a l => exact ⟨a, List.mem_cons_self⟩
  have hne : (truthsR h).length ≠ 0 := fun e => by
    have := (truthsR_mem hS t0).2 ht0
    rw [List.eq_nil_of_length_eq_zero e] at this
    cases this
  obtain ⟨g1, g2⟩ := bndTo_at hb _ (Nat.le_refl _)
  obtain ⟨⟨a, ha, ea⟩, b, hb2, eb⟩ := g2 hne
  rw [List.take_length] at g1
  obtain ⟨k1, ⟨y1, hy1, ey1⟩, y2, hy2, ey2⟩ := boundsL_at (n := (h.last + 1).toNat) (every_ne (turns := turns) ht) hi
  obtain ⟨t1, ht1, rfl⟩ := (mem_everyL h turns y1).1 hy1
  obtain ⟨t2, ht2, rfl⟩ := (mem_everyL h turns y2).1 hy2
  rw [hget _ ht1] at ey1
  rw [hget _ ht2] at ey2
  have ha' := (truthsR_mem hS a).1 ha
  have hb' := (truthsR_mem hS b).1 hb2
  have q1 := k1 _ ((mem_everyL h turns _).2 ⟨a, ha', rfl⟩)
  have q2 := k1 _ ((mem_everyL h turns _).2 ⟨b, hb', rfl⟩)
  rw [hget _ ha'] at q1
  rw [hget _ hb'] at q2
  have q3 := g1 t1 ((truthsR_mem hS t1).2 ht1)
  have q4 := g1 t2 ((truthsR_mem hS t2).2 ht2)
  have q5 := g1 a ha
  change (∀ t ∈ truthsR h, (bndR h turns (truthsR h) i).1 ≤ heatI h turns i t ∧ heatI h turns i t ≤ (bndR h turns (truthsR h) i).2) at g1
  change (bndR h turns (truthsR h) i).1 = _ at ea
  change (bndR h turns (truthsR h) i).2 = _ at eb
  change (bndR h turns (truthsR h) i).1 ≤ _ ∧ _ ≤ (bndR h turns (truthsR h) i).2 at q3 q4 q5
  refine ⟨Prod.ext ?_ ?_, ?_⟩ <;> omega

theorem fearAt_eq {h : HeapD} {r : Rng} (hr : r.1 ≤ r.2) : fearAt h r = fearB h r := by
  unfold fearAt fearB lostB
  rw [Bool.eq_iff_iff]
  simp only [Bool.or_eq_true, decide_eq_true_eq]
  omega
theorem fearD_eq {h : HeapD} {r : Rng} (hr : r.1 ≤ r.2) (i : Nat) : fearD h r i = ((i : Int), decide (h.burn < r.2), decide (r.1 < h.die)) := by
  unfold fearD
  have e1 : (decide (h.burn < r.1) || decide (h.burn < r.2)) = decide (h.burn < r.2) := by
    rw [Bool.eq_iff_iff]; simp only [Bool.or_eq_true, decide_eq_true_eq]; omega
  have e2 : (decide (r.1 < h.die) || decide (r.2 < h.die)) = decide (r.1 < h.die) := by
    rw [Bool.eq_iff_iff]; simp only [Bool.or_eq_true, decide_eq_true_eq]; omega
  rw [e1, e2]

/-- The first danger: the reference's is the program's. -/
theorem fear_eq {h : HeapD} {turns : List Int} (hask : askErr h turns = 0) (ht : (truthsL h []).isEmpty = false) :
    (∀ i, fearR h turns (truthsR h) = some i → fearErr h turns = 0 ∧ fearOut h turns = ((i : Int), decide (h.burn < (bndR h turns (truthsR h) i).2), decide ((bndR h turns (truthsR h) i).1 < h.die))) ∧
    (fearR h turns (truthsR h) = none → fearErr h turns = 7 ∧ fearOut h turns = (0, false, false)) := by
  have hS := ask_sound hask
  have hbo : boundsOut h turns = boundsL (h.last + 1).toNat (everyL h turns) := by unfold boundsOut; rw [if_pos hask]
  have hlen : (boundsL (h.last + 1).toNat (everyL h turns)).length = (h.last + 1).toNat := boundsL_len (every_ne ht)
  have hat : ∀ j (hj : j < (boundsL (h.last + 1).toNat (everyL h turns)).length), (boundsL (h.last + 1).toNat (everyL h turns))[j] = bndR h turns (truthsR h) j ∧ (bndR h turns (truthsR h) j).1 ≤ (bndR h turns (truthsR h) j).2 := fun j hj => by
    obtain ⟨h1, h2⟩ := bndR_at hS ht (turns := turns) (i := j) (by omega)
    refine ⟨?_, h2⟩
    rw [h1]
    simp [List.getD, hj]
  have key : ∀ o, fearFrom h (boundsOut h turns) 0 = o → fearErr h turns = (if o.isSome then 0 else 7) ∧ fearOut h turns = o.getD (0, false, false) := fun o ho => by
    unfold fearErr fearOut
    rw [if_neg (by rw [hask]; simp), ho]
    exact ⟨rfl, rfl⟩
  constructor
  · intro i hi
    unfold fearR at hi
    rw [List.find?_range_eq_some] at hi
    obtain ⟨h1, h2, h3⟩ := hi
    have h2' : i < (h.last + 1).toNat := by simpa using h2
    have hil : i < (boundsL (h.last + 1).toNat (everyL h turns)).length := by omega
    have := fearFrom_at h (boundsL (h.last + 1).toNat (everyL h turns)) i 0 hil (fun j hj => by
      obtain ⟨e1, e2⟩ := hat j (by omega)
      rw [e1, fearAt_eq e2]
      simpa using h3 j hj) (by
      obtain ⟨e1, e2⟩ := hat i hil
      rw [e1, fearAt_eq e2]
      exact h1)
    obtain ⟨e1, e2⟩ := hat i hil
    rw [e1, fearD_eq e2, Nat.zero_add, ← hbo] at this
    exact key _ this
  · intro hn
    unfold fearR at hn
    rw [List.find?_eq_none] at hn
    have := fearFrom_no h (boundsL (h.last + 1).toNat (everyL h turns)) 0 (fun j hj => by
      obtain ⟨e1, e2⟩ := hat j hj
      rw [e1, fearAt_eq e2]
      have := hn j (List.mem_range.2 (by omega))
      simpa using this)
    rw [← hbo] at this
    exact key _ this

end Go.Proofs.YtoibfafmnaooaaaGreat

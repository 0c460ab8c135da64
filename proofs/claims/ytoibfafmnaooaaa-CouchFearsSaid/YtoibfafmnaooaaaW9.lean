/-
  Contracts of package couch, eighth part: Play and ProveTruth.
-/
import Derived.WalkKit
import Derived.WalkLawsBesides
import Derived.WalkSpells
import Derived.Outline
import Derived.Handy
import Derived.KernelRfl
import Derived.Lib.Hide
import Derived.Test.YtoibfafmnaooaaaW8
namespace Go.Proofs.Ytoibfafmnaooaaa
open Go.RowKit Go.RG Go.SL Go.Shelf Cou
set_option maxHeartbeats 400000
set_option maxRecDepth 10000

/-- A table of what spots cool to. -/
def CObj (cool : Int) (o : Obj) : Prop := ∃ es c, o = .map es c ∧ ∀ e ∈ es.toList, Entry cool e
theorem Cache.obj {W : World} {mb : Nat} {cool : Int} (h : Cache W mb cool) : ∃ o, W.heap[mb]? = some o ∧ CObj cool o := by
  obtain ⟨es, c, h1, h2⟩ := h; exact ⟨_, h1, es, c, rfl, h2⟩
theorem Cache.of_obj {W : World} {mb : Nat} {cool : Int} {o : Obj} (h : W.heap[mb]? = some o) (ho : CObj cool o) : Cache W mb cool := by
  obtain ⟨es, c, rfl, h2⟩ := ho; exact ⟨es, c, h, h2⟩
theorem Cache.noCells {W : World} {mb : Nat} {cool : Int} (h : Cache W mb cool) (cs : Array Value) (t : TypeId) (f : Nat × Nat) : W.heap[mb]? ≠ some (Obj.cells cs t f) := by
  obtain ⟨es, c, h1, _⟩ := h
  rw [h1]; intro e; cases e

/-- A new heap at work. -/
def workSpec (B : Nat) (h : HeapD) (a b c : Value) : RG.Spec :=
  ⟨fun _ v => ∃ wb : Nat, v = .pointer (some ⟨wb, 0, none⟩), fun _ v W => ∃ wb mb : Nat, v = .pointer (some ⟨wb, 0, none⟩) ∧ B ≤ wb ∧ B ≤ mb ∧ WorkAt W wb mb h a b c⟩

theorem work_stays {B B' : Nat} {h : HeapD} {a b c v : Value} {W W' : World} (hE : ExtM B (CObj h.cool) W W')
    (hs : ∃ wb mb : Nat, v = .pointer (some ⟨wb, 0, none⟩) ∧ B' ≤ wb ∧ B' ≤ mb ∧ WorkAt W wb mb h a b c) : ∃ wb mb : Nat, v = .pointer (some ⟨wb, 0, none⟩) ∧ B' ≤ wb ∧ B' ≤ mb ∧ WorkAt W' wb mb h a b c := by
  obtain ⟨wb, mb, rfl, h1, h2, h3⟩ := hs
  obtain ⟨o, ho, hc⟩ := h3.cache.obj
  obtain ⟨o', ho', hc'⟩ := hE.keeps mb o ho hc
  exact ⟨wb, mb, rfl, h1, h2, hE.cells _ _ _ _ h3.cells, Cache.of_obj ho' hc'⟩

/-- It returns a new slice and an error; nothing that was there has turned. -/
def POwnE (t : TypeId) (size n : Nat) (xs : List Value) (err : Int) (w : World) (e : Ending) (w' : World) : Prop :=
  ∃ v, e = .returned (.tuple #[v, .int .i64 err]) ∧ w'.ownsRow w.heap.size t size v n xs ∧ Below w.heap.size w w'

theorem play_err (h : HeapD) (wv tv xv' ws trv : Value) (start : Int) (wet turns : List Int) (w : World) (hw : PairsAt w wv h.wet) (ht : IntsAt w tv h.turns) (hx : TriplesAt w xv' h.readings) (hws : IntsAt w ws wet) (htr : IntsAt w trv turns)
    (err : Int) (he : playErr h (start, wet) turns = err) (he0 : err ≠ 0) :
    Calls Try.prog 40 #[hv h wv tv xv', .agg #[iv start, ws], trv] w (fun e w' => e = .returned (.tuple #[.slice none 0 0, iv err]) ∧ Below w.heap.size w w') := by
  obtain ⟨ow, cw, rfl⟩ := hw.open
  obtain ⟨ot, ct, rfl⟩ := ht.open
  obtain ⟨ox, cx, rfl⟩ := hx.open
  have HW := Lib.hid hw
  have HT := Lib.hid ht
  have HX := Lib.hid hx
  clear hw ht hx
  obtain ⟨os, cs, rfl⟩ := hws.open
  obtain ⟨oq, cq, rfl⟩ := htr.open
  have HS := Lib.hid hws
  have HQ := Lib.hid htr
  clear hws htr
  by_cases hf0 : fault h = 0
  case neg =>
    obtain rfl : fault h = err := by unfold playErr at he; rw [if_pos hf0] at he; exact he
    clear he
    generalize hff : fault h = f at *
    have HF := Lib.hid hff
    clear hff
    go_enter Try.func40, Try.ntmps40
    go_wp2_with fail
    (refine (check_any h _ _ _ _ ((HW.out.alloc _).alloc _) ((HT.out.alloc _).alloc _) ((HX.out.alloc _).alloc _)).mono ?_; rintro e w' ⟨rfl, hb⟩; obtain ⟨hc, hf⟩ := bcell hb; have hz0 : w.heap.size < w'.heap.size := (by have := hb.size; (try simp only [World.size_alloc] at this); omega); have hz1 : w.heap.size + 1 < w'.heap.size := (by have := hb.size; (try simp only [World.size_alloc] at this); omega))
    rw [HF.out]
    go_wp2_with fail
    go_returns
    exact ⟨by simp, (by repeat (first | exact Below.refl _ _ | assumption | refine bgo ?_ (by assumption) | refine bgoAlloc ?_ _ | refine bgoDrew ?_ | refine bgoSet ?_ (by simp; omega) _))⟩
  have hS := sound_of hf0
  obtain ⟨hl0, hl9, hwl⟩ : 0 ≤ h.last ∧ h.last ≤ 9 ∧ (h.wet.length : Int) = h.last + 1 := ⟨hS.last0, hS.last9, hS.wetLen⟩
  have HF := Lib.hid hf0
  have HSS := Lib.hid hS
  clear hf0 hS
  cases hl : listedT h (start, wet)
  · obtain rfl : 2 = err := by unfold playErr at he; rw [HF.out, hl] at he; simpa using he
    have HL := Lib.hid hl
    clear hl he
    go_enter Try.func40, Try.ntmps40
    go_wp2_with fail
    (refine (check_any h _ _ _ _ ((HW.out.alloc _).alloc _) ((HT.out.alloc _).alloc _) ((HX.out.alloc _).alloc _)).mono ?_; rintro e w' ⟨rfl, hb⟩; obtain ⟨hc, hf⟩ := bcell hb; have hz0 : w.heap.size < w'.heap.size := (by have := hb.size; (try simp only [World.size_alloc] at this); omega); have hz1 : w.heap.size + 1 < w'.heap.size := (by have := hb.size; (try simp only [World.size_alloc] at this); omega))
    rw [HF.out]
    have HB := Lib.hid (show Below w.heap.size w w' from (by repeat (first | exact Below.refl _ _ | assumption | refine bgo ?_ (by assumption) | refine bgoAlloc ?_ _ | refine bgoDrew ?_ | refine bgoSet ?_ (by simp; omega) _)))
    clear hb
    go_wp2_with fail
    refine (listed_any h _ _ _ _ start wet _ (HW.out.below HB.out (Nat.le_refl _)) (HS.out.below HB.out (Nat.le_refl _)) hl0 hl9 hwl).mono ?_
    rintro e w2 ⟨rfl, hb⟩
    rw [HL.out]
    go_wp2_with fail
    go_returns
    exact ⟨by simp, bgo HB.out hb⟩
  · cases htn : isTurns h.last turns
    case true => exact absurd (by unfold playErr at he; rw [HF.out, hl, htn] at he; simpa using he.symm) he0
    obtain rfl : 2 = err := by unfold playErr at he; rw [HF.out, hl, htn] at he; simpa using he
    have HL := Lib.hid hl
    have HTN := Lib.hid htn
    clear hl he htn
    go_enter Try.func40, Try.ntmps40
    go_wp2_with fail
    (refine (check_any h _ _ _ _ ((HW.out.alloc _).alloc _) ((HT.out.alloc _).alloc _) ((HX.out.alloc _).alloc _)).mono ?_; rintro e w' ⟨rfl, hb⟩; obtain ⟨hc, hf⟩ := bcell hb; have hz0 : w.heap.size < w'.heap.size := (by have := hb.size; (try simp only [World.size_alloc] at this); omega); have hz1 : w.heap.size + 1 < w'.heap.size := (by have := hb.size; (try simp only [World.size_alloc] at this); omega))
    rw [HF.out]
    have HB := Lib.hid (show Below w.heap.size w w' from (by repeat (first | exact Below.refl _ _ | assumption | refine bgo ?_ (by assumption) | refine bgoAlloc ?_ _ | refine bgoDrew ?_ | refine bgoSet ?_ (by simp; omega) _)))
    clear hb
    go_wp2_with fail
    refine (listed_any h _ _ _ _ start wet _ (HW.out.below HB.out (Nat.le_refl _)) (HS.out.below HB.out (Nat.le_refl _)) hl0 hl9 hwl).mono ?_
    rintro e w2 ⟨rfl, hb⟩
    rw [HL.out]
    obtain ⟨hc2, hf2⟩ := bcell hb
    have HB2 := Lib.hid (bgo HB.out hb)
    clear hb
    go_wp2_with fail
    refine (turnings_any h _ _ _ _ turns _ (HQ.out.below HB2.out (Nat.le_refl _)) hl0 hl9).mono ?_
    rintro e w3 ⟨rfl, hb⟩
    rw [HTN.out]
    go_wp2_with fail
    go_returns
    exact ⟨by simp, bgo HB2.out hb⟩

/-- All ten cells of a block are written. -/
theorem set_ten {w : World} {b : Nat} {t : TypeId} {fr : Nat × Nat} {a0 a1 a2 a3 a4 a5 a6 a7 a8 a9 : Value} (h : w.heap[b]? = some (.cells #[a0, a1, a2, a3, a4, a5, a6, a7, a8, a9] t fr)) (y0 y1 y2 y3 y4 y5 y6 y7 y8 y9 : Value) :
    ((((((((((w.setCell ⟨b, 0, none⟩ y0).setCell ⟨b, 1, none⟩ y1).setCell ⟨b, 2, none⟩ y2).setCell ⟨b, 3, none⟩ y3).setCell ⟨b, 4, none⟩ y4).setCell ⟨b, 5, none⟩ y5).setCell ⟨b, 6, none⟩ y6).setCell ⟨b, 7, none⟩ y7).setCell ⟨b, 8, none⟩ y8).setCell ⟨b, 9, none⟩ y9).heap[b]? = some (.cells #[y0, y1, y2, y3, y4, y5, y6, y7, y8, y9] t fr) := by
  have := (set_block (o := 9) (set_block (o := 8) (set_block (o := 7) (set_block (o := 6) (set_block (o := 5) (set_block (o := 4) (set_block (o := 3) (set_block (o := 2) (set_block (o := 1) (set_block (o := 0) h y0) y1) y2) y3) y4) y5) y6) y7) y8) y9)
  simpa using this

theorem hours_n (h : HeapD) (a b c : Value) (n : Nat) (w : World) (h0 : 0 ≤ h.last) (h9 : h.last ≤ 9) (hn : h.last + 1 = n) : Calls Try.prog 82 #[hv h a b c] w (PV (iv n) w) := by
  rw [← hn]; exact hours_any h a b c w h0 h9

theorem play_ok (h : HeapD) (wv tv xv' ws trv : Value) (start : Int) (wet turns : List Int) (w : World) (hw : PairsAt w wv h.wet) (ht : IntsAt w tv h.turns) (hx : TriplesAt w xv' h.readings) (hws : IntsAt w ws wet) (htr : IntsAt w trv turns)
    (hf0 : fault h = 0) (hl : listedT h (start, wet) = true) (htn : isTurns h.last turns = true) (n : Nat) (hn : h.last + 1 = n) :
    Calls Try.prog 40 #[hv h wv tv xv', .agg #[iv start, ws], trv] w (POwnE 3 1 n (intCells ((heats h (start, wet) turns).take n)) 0 w) := by
  obtain ⟨ow, cw, rfl⟩ := hw.open
  obtain ⟨ot, ct, rfl⟩ := ht.open
  obtain ⟨ox, cx, rfl⟩ := hx.open
  have HW := Lib.hid hw
  have HT := Lib.hid ht
  have HX := Lib.hid hx
  clear hw ht hx
  obtain ⟨os, cs, rfl⟩ := hws.open
  obtain ⟨oq, cq, rfl⟩ := htr.open
  have HS := Lib.hid hws
  have HQ := Lib.hid htr
  clear hws htr
  have hS := sound_of hf0
  obtain ⟨hl0, hl9, hwl⟩ : 0 ≤ h.last ∧ h.last ≤ 9 ∧ (h.wet.length : Int) = h.last + 1 := ⟨hS.last0, hS.last9, hS.wetLen⟩
  have hn10 : n ≤ 10 := by omega
  have HF := Lib.hid hf0
  have HSS := Lib.hid hS
  have HL := Lib.hid hl
  have HTN := Lib.hid htn
  obtain ⟨y0, y1, y2, y3, y4, y5, y6, y7, y8, y9, hy⟩ := ten_of (heatsTo_length h.size h.cool turns start wet wet.length)
  have HY : Hid (heats h (start, wet) turns = [y0, y1, y2, y3, y4, y5, y6, y7, y8, y9]) := Lib.hid hy
  clear hl htn hf0 hS hy
  rw [HY.out]
  go_enter Try.func40, Try.ntmps40
  go_wp2_with fail
  (refine (check_any h _ _ _ _ ((HW.out.alloc _).alloc _) ((HT.out.alloc _).alloc _) ((HX.out.alloc _).alloc _)).mono ?_; rintro e w' ⟨rfl, hb⟩; obtain ⟨hc, hf⟩ := bcell hb; have hz0 : w.heap.size < w'.heap.size := (by have := hb.size; (try simp only [World.size_alloc] at this); omega); have hz1 : w.heap.size + 1 < w'.heap.size := (by have := hb.size; (try simp only [World.size_alloc] at this); omega))
  rw [HF.out]
  have HB := Lib.hid (show Below w.heap.size w w' from (by repeat (first | exact Below.refl _ _ | assumption | refine bgo ?_ (by assumption) | refine bgoAlloc ?_ _ | refine bgoDrew ?_ | refine bgoSet ?_ (by simp; omega) _)))
  have HC := Lib.hid hb
  clear hb
  go_wp2_with fail
  refine (listed_any h _ _ _ _ start wet _ (HW.out.below HB.out (Nat.le_refl _)) (HS.out.below HB.out (Nat.le_refl _)) hl0 hl9 hwl).mono ?_
  rintro e w2 ⟨rfl, hb⟩
  rw [HL.out]
  obtain ⟨hc2, hf2⟩ := bcell hb
  have HB2 := Lib.hid (bgo HB.out hb)
  have HC2 := Lib.hid hb
  clear hb
  go_wp2_with fail
  refine (turnings_any h _ _ _ _ turns _ (HQ.out.below HB2.out (Nat.le_refl _)) hl0 hl9).mono ?_
  rintro e w3 ⟨rfl, hb⟩
  rw [HTN.out]
  have HB3 := Lib.hid (bgo HB2.out hb)
  have HC3 := Lib.hid (bgo (bgo HC.out HC2.out) hb)
  clear hb hc hf hc2 hf2
  have hA0 := (HC3.out.block w.heap.size (by simp; omega)).trans ((Below.heap_alloc _ _ _ (by simp)).trans (heap_new0 _ _))
  have hA1 := (HC3.out.block (w.heap.size + 1) (by simp)).trans (heap_new1 _ _ _)
  have hs0 : w.heap.size < w3.heap.size := (Array.getElem?_eq_some_iff.1 hA0).1
  have hs1 : w.heap.size + 1 < w3.heap.size := (Array.getElem?_eq_some_iff.1 hA1).1
  have hc0 : ∀ i, w3.cell? ⟨w.heap.size, i, none⟩ = (#[.int .i64 h.last, .int .i64 h.size, .int .i64 h.cool, .int .i64 h.die, .int .i64 h.burn, .int .i64 h.start.1, .int .i64 h.start.2, .slice ow h.wet.length cw, .slice ot h.turns.length ct, .slice ox h.readings.length cx] : Array Value)[i]? := fun i => by
    simp only [World.cell?, hA0]; rfl
  have hc1 : ∀ i, w3.cell? ⟨w.heap.size + 1, i, none⟩ = (#[iv start, .slice os wet.length cs] : Array Value)[i]? := fun i => by
    simp only [World.cell?, hA1]; rfl
  have HA0 := Lib.hid hA0
  have HA1 := Lib.hid hA1
  clear hA0 hA1
  go_wp2_with fail
  refine wp_region_rgM 6 (CObj h.cool) (some 4) [(1, workSpec w3.heap.size h (.slice ow h.wet.length cw) (.slice ot h.turns.length ct) (.slice ox h.readings.length cx)), (4, ⟨fun _ v => v = .agg #[iv y0, iv y1, iv y2, iv y3, iv y4, iv y5, iv y6, iv y7, iv y8, iv y9], fun _ _ _ => True⟩), (5, Spec.block w3.heap.size #[iv 0, iv 0, iv 0, iv 0, iv 0, iv 0, iv 0, iv 0, iv 0, iv 0] 127)] (by kernel_rfl) (by kernel_rfl) ?_
  simp only [List.take_succ_cons, List.take_zero, List.drop_succ_cons, List.drop_zero]
  repeat (refine tree_det (by rfl) _ (by rfl) (fun W hW => by go_simp; (try simp (disch := omega) only [IntWalk.i64_in, Int.tdiv_eq_ediv_of_nonneg]); try rfl) ?_; simp only [Act.put, List.setIfInBounds_toArray, List.set_cons_succ, List.set_cons_zero])
  refine tree_some _ (by rfl) (by rfl) (by exact ⟨.pointer (some ⟨0, 0, none⟩), 0, rfl⟩) (fun W hE hF => ?_) (fun v W W' hc hE => work_stays hE hc) (fun v hv => ?_)
  · have hE' : ExtM w3.heap.size (CObj h.cool) w3 W := hE
    have hs3 := hE'.size
    refine does_enter 71 #[hv h (.slice ow h.wet.length cw) (.slice ot h.turns.length ct) (.slice ox h.readings.length cx)] (by go_simp; try rfl) ?_
    refine (work_any h ow ot ox _ _ _ _ _ _ W).mono ?_
    rintro e W' ⟨wb, mb, rfl, h1, h2, h3, h4⟩
    exact ⟨_, rfl, ⟨wb, rfl⟩, ⟨wb, mb, rfl, by omega, by omega, h3⟩, Ext.of_below h4⟩
  obtain ⟨wb, rfl⟩ := hv
  simp only [Act.put, List.setIfInBounds_toArray, List.set_cons_succ, List.set_cons_zero]
  repeat (refine tree_det (by rfl) _ (by rfl) (fun W hW => by go_simp; (try simp (disch := omega) only [IntWalk.i64_in, Int.tdiv_eq_ediv_of_nonneg]); try rfl) ?_; simp only [Act.put, List.setIfInBounds_toArray, List.set_cons_succ, List.set_cons_zero])
  refine tree_some _ (by rfl) (by rfl) ⟨_, rfl⟩ (fun W hE hF => ?_) (fun _ _ _ _ _ => trivial) (fun v hv => ?_)
  · have hE' : Ext [] w3 W := hE
    obtain ⟨wb', mb, hwb, h1, h2, h3⟩ := hF _ (List.Mem.head _) (by kernel_rfl)
    cases hwb
    obtain ⟨k1, k2, k3, k4, k5⟩ := listed_of HSS.out HL.out
    refine does_enter 80 #[.pointer (some ⟨wb, 0, none⟩), .agg #[iv start, .slice os wet.length cs], .slice oq turns.length cq] (by go_simp; try rfl) ?_
    refine (play_any h _ _ _ wb mb start wet turns _ _ W h3 (HS.out.below (bgo HB3.out hE'.below) (Nat.le_refl _)) (HQ.out.below (bgo HB3.out hE'.below) (Nat.le_refl _)) k2 HSS.out.size0 HSS.out.size1 HSS.out.cool0 HSS.out.cool1 k3 k4 k5).mono ?_
    rintro e W' ⟨rfl, hcc, hE2⟩
    exact ⟨_, rfl, by rw [HY.out]; rfl, trivial, ExtM.of_one hE2 (by omega) h3.cache.noCells hcc.obj⟩
  obtain rfl : v = .agg #[iv y0, iv y1, iv y2, iv y3, iv y4, iv y5, iv y6, iv y7, iv y8, iv y9] := hv
  simp only [Act.put, List.setIfInBounds_toArray, List.set_cons_succ, List.set_cons_zero]
  refine tree_blockM w3.heap.size _ _ (by rfl) (Nat.le_refl _) (by rfl) (by simp) (fun W hW => by go_simp; try rfl) (fun b => ?_)
  simp only [Act.put, List.setIfInBounds_toArray, List.set_cons_succ, List.set_cons_zero]
  intro W hE hF
  obtain ⟨b', hb, hbB, hblk⟩ := hF _ (List.Mem.head _)
  cases hb
  have hEx : Ext [] w3 W := Kept.ext hE
  obtain ⟨hc, hf⟩ := bcell hEx.below
  have hfr := frozen_of_block hblk
  have HBK := Lib.hid hblk
  have HE := Lib.hid (bgo HB3.out hEx.below)
  have hwb := (Array.getElem?_eq_some_iff.1 hblk).1
  have hws : w.heap.size < W.heap.size := by omega
  have hg : ∀ i, W.cell? ⟨b, i, none⟩ = (#[iv 0, iv 0, iv 0, iv 0, iv 0, iv 0, iv 0, iv 0, iv 0, iv 0] : Array Value)[i]? := fun i => by
    simp only [World.cell?, hblk]; rfl
  have hnb : ¬ w.heap.size = b := by omega
  clear hblk hF hE hEx
  go_wp2_with fail
  refine (hours_n h _ _ _ n _ hl0 hl9 hn).mono ?_
  rintro e w4 ⟨rfl, hb⟩
  have hbk4 : w4.heap[b]? = some (.cells #[iv y0, iv y1, iv y2, iv y3, iv y4, iv y5, iv y6, iv y7, iv y8, iv y9] 127 (0, 0)) :=
    (hb.block b (by simpa [World.setCell] using hwb)).trans (set_ten HBK.out _ _ _ _ _ _ _ _ _ _)
  have HB4 : Hid (Below w.heap.size w w4) := Lib.hid (bgo (by repeat (first | refine bgoSet ?_ (by show w.heap.size ≤ b; omega) _ | exact HE.out)) hb)
  have HK4 := Lib.hid hbk4
  clear hb hbk4 hc hf hfr hg hc0 hc1
  have hg4 : ∀ i, w4.cell? ⟨b, i, none⟩ = (#[iv y0, iv y1, iv y2, iv y3, iv y4, iv y5, iv y6, iv y7, iv y8, iv y9] : Array Value)[i]? := fun i => by
    simp only [World.cell?, HK4.out]; rfl
  have hb4 : b < w4.heap.size := (Array.getElem?_eq_some_iff.1 HK4.out).1
  have hnI : (n : Int) ≤ 10 := by omega
  have hnI0 : (0 : Int) ≤ n := by omega
  go_wp2_with fail
  have hl10 : ([y0, y1, y2, y3, y4, y5, y6, y7, y8, y9].take n).length = n := by simp; omega
  have hsl : IntsAt w4 (.slice (some ⟨b, 0, none⟩) n 10) ([y0, y1, y2, y3, y4, y5, y6, y7, y8, y9].take n) := by
    have := SlAt.of_prefix n 10 HK4.out (by simpa using hn10) hn10 (by simp [maxLen])
    unfold IntsAt intCells
    rw [hl10, List.map_take]
    exact this
  have hcl := clone_any _ _ w4 hsl (by rw [hl10]; omega)
  rw [hl10] at hcl
  refine hcl.mono ?_
  rintro e w5 ⟨v, rfl, hown, hb⟩
  have HO := Lib.hid hown
  clear hown hcl hsl hg4
  go_wp2_with fail
  go_returns
  exact ⟨v, by simp, ⟨HO.out.1, HO.out.2.imp id (fun ⟨g, cap, cur, h1, h2, h3⟩ => ⟨g, cap, cur, h1, Nat.le_trans HB4.out.size h2, h3⟩)⟩, bgo HB4.out hb⟩

/-- **Play RETURNS THE HEATS, OR THE ERROR.** -/
theorem Play_any (h : HeapD) (wv tv xv' ws trv : Value) (start : Int) (wet turns : List Int) (w : World) (hw : PairsAt w wv h.wet) (ht : IntsAt w tv h.turns) (hx : TriplesAt w xv' h.readings) (hws : IntsAt w ws wet) (htr : IntsAt w trv turns) :
    Calls Try.prog 40 #[hv h wv tv xv', .agg #[iv start, ws], trv] w (POwnE 3 1 (playOut h (start, wet) turns).length (intCells (playOut h (start, wet) turns)) (playErr h (start, wet) turns) w) := by
  by_cases he : playErr h (start, wet) turns = 0
  · have hf0 : fault h = 0 := by
      apply Classical.byContradiction
      intro hf; unfold playErr at he; rw [if_pos hf] at he; exact hf he
    have hl : listedT h (start, wet) = true ∧ isTurns h.last turns = true := by
      unfold playErr at he
      rw [if_neg (by rw [hf0]; simp)] at he
      split at he
      · omega
      · rename_i hn; simpa using hn
    have hS := sound_of hf0
    have hl0 := hS.last0
    have hl9 := hS.last9
    have hlen : (playOut h (start, wet) turns).length = (h.last + 1).toNat := by
      unfold playOut
      rw [if_pos he, List.length_take, heats, heatsTo_length]
      omega
    rw [he, hlen, show playOut h (start, wet) turns = (heats h (start, wet) turns).take (h.last + 1).toNat from if_pos he]
    exact play_ok h wv tv xv' ws trv start wet turns w hw ht hx hws htr hf0 hl.1 hl.2 _ (by omega)
  · refine (play_err h wv tv xv' ws trv start wet turns w hw ht hx hws htr _ rfl he).mono ?_
    rintro e w' ⟨rfl, hb⟩
    rw [show playOut h (start, wet) turns = [] from if_neg he]
    exact ⟨.slice none 0 0, rfl, ⟨rfl, .inl ⟨rfl, rfl⟩⟩, hb⟩

end Go.Proofs.Ytoibfafmnaooaaa

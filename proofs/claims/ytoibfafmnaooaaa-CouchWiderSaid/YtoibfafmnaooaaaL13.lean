/-
  The walk of CouchWider: whatever the heap, which range, by how much, and the turnings by bits, it returns true; nothing that was there has turned.
-/
import Derived.WalkKit
import Derived.WalkLawsBesides
import Derived.WalkSpells
import Derived.Outline
import Derived.Handy
import Derived.KernelRfl
import Derived.Lib.Hide
import Derived.Test.YtoibfafmnaooaaaSG
namespace Go.Proofs.Ytoibfafmnaooaaa
open Go.RowKit Go.RG Go.SL Go.Shelf Cou
set_option maxHeartbeats 400000
set_option maxRecDepth 10000

theorem min_go13 (ats : Array TypeId) (ty : TypeId) (a b : Int) : Builtin.min_ ats ty #[.int .i64 a, .int .i64 b] = pure (.int .i64 (min a b)) := by
  have h : Builtin.min_ ats ty #[.int .i64 a, .int .i64 b] = pure (.int .i64 (if b < a then b else a)) := rfl
  rw [h]
  have e : (if b < a then b else a) = min a b := by
    by_cases c : b < a
    · rw [if_pos c]; omega
    · rw [if_neg c]; omega
  rw [e]
theorem max_go13 (ats : Array TypeId) (ty : TypeId) (a b : Int) : Builtin.max_ ats ty #[.int .i64 a, .int .i64 b] = pure (.int .i64 (max a b)) := by
  have h : Builtin.max_ ats ty #[.int .i64 a, .int .i64 b] = pure (.int .i64 (if a < b then b else a)) := rfl
  rw [h]
  have e : (if a < b then b else a) = max a b := by
    by_cases c : a < b
    · rw [if_pos c]; omega
    · rw [if_neg c]; omega
  rw [e]
attribute [local go_sem ↓] min_go13 max_go13

theorem pairCells_set2 : ∀ (l : List Rng) (K : Nat) (a b : Int), K < l.length → pairCells (l.set K (a, b)) = ((pairCells l).set (K * 2) (iv a)).set (K * 2 + 1) (iv b) := by
  intro l
  induction l with
  | nil => intro K a b h; simp at h
  | cons x l ih =>
    intro K a b h
    cases K with
    | zero => simp [pairCells]
    | succ K =>
      have := ih K a b (by simpa using h)
      simp only [pairCells, List.set_cons_succ, List.flatMap_cons, List.cons_append, List.nil_append, Nat.add_mul, Nat.one_mul] at this ⊢
      rw [this]
theorem tripleCells_set : ∀ (l : List Rdg) (K : Nat) (r : Rdg) (c : Int), l[K]? = some r → tripleCells (l.set K (r.1, r.2.1, c)) = (tripleCells l).set (K * 3 + 2) (iv c) := by
  intro l
  induction l with
  | nil => intro K r c h; simp at h
  | cons x l ih =>
    intro K r c h
    cases K with
    | zero =>
      obtain rfl : x = r := by simpa using h
      simp [tripleCells]
    | succ K =>
      have := ih K r c (by simpa using h)
      simp only [tripleCells, List.set_cons_succ, List.flatMap_cons, List.cons_append, List.nil_append, Nat.add_mul, Nat.one_mul, Nat.add_right_comm] at this ⊢
      rw [this]

theorem pairs_set {W : World} {base g cap : Nat} {e : TypeId} {l : List Rng} (h : W.ownsRow base e 2 (.slice (some ⟨g, 0, none⟩) l.length cap) l.length (pairCells l)) {K : Nat} (hK : K < l.length) (a b : Int) :
    ((W.setCell ⟨g, K * 2, none⟩ (iv a)).setCell ⟨g, K * 2 + 1, none⟩ (iv b)).ownsRow base e 2 (.slice (some ⟨g, 0, none⟩) (l.set K (a, b)).length cap) (l.set K (a, b)).length (pairCells (l.set K (a, b))) := by
  obtain ⟨h1, ⟨h2, _⟩ | ⟨g', cap', cur, hv, hb, hc, h3, h4, h5, h6⟩⟩ := h
  · cases h2
  · cases hv
    have he := pairCells_set2 l K a b hK
    refine ⟨by rw [he]; simpa using h1, .inr ⟨g, cap, (cur.setIfInBounds (K * 2) (iv a)).setIfInBounds (K * 2 + 1) (iv b), by simp, hb, set_block (set_block hc _) _, by simpa using h3, h4, by simpa using h5, ?_⟩⟩
    rw [he, ← h6]
    simp [List.take_set]
theorem triples_set {W : World} {base g cap : Nat} {e : TypeId} {l : List Rdg} (h : W.ownsRow base e 3 (.slice (some ⟨g, 0, none⟩) l.length cap) l.length (tripleCells l)) {K : Nat} {r : Rdg} (hr : l[K]? = some r) (c : Int) :
    (W.setCell ⟨g, K * 3 + 2, none⟩ (iv c)).ownsRow base e 3 (.slice (some ⟨g, 0, none⟩) (l.set K (r.1, r.2.1, c)).length cap) (l.set K (r.1, r.2.1, c)).length (tripleCells (l.set K (r.1, r.2.1, c))) := by
  obtain ⟨h1, ⟨h2, _⟩ | ⟨g', cap', cur, hv, hb, hc, h3, h4, h5, h6⟩⟩ := h
  · cases h2
  · cases hv
    have he := tripleCells_set l K r c hr
    refine ⟨by rw [he]; simpa using h1, .inr ⟨g, cap, cur.setIfInBounds (K * 3 + 2) (iv c), by simp, hb, set_block hc _, by simpa using h3, h4, by simpa using h5, ?_⟩⟩
    rw [he, ← h6]
    simp [List.take_set]

/-- A range that is widened. -/
theorem wider_wet {h : HeapD} (hS : Sound h) {J : Nat} (hJ : J < h.wet.length) {r : Rng} (hr : h.wet[J] = r) {low high : Int} (h1 : 0 ≤ low) (h2 : 0 ≤ high) (hS2 : Sound { h with wet := h.wet.set J (max 0 (r.1 - low), min 20 (r.2 + high)) }) :
    Wider h { h with wet := h.wet.set J (max 0 (r.1 - low), min 20 (r.2 + high)) } := by
  have hrb := hS.wet r (by rw [← hr]; exact List.getElem_mem hJ)
  refine ⟨hS2, hS, rfl, rfl, rfl, rfl, rfl, rfl, ⟨Int.le_refl _, Int.le_refl _⟩, by simp, fun i hi => ?_, rfl, fun i _ => ⟨rfl, rfl, Int.le_refl _⟩⟩
  show ((h.wet.set J _).getD i (0, 0)).1 ≤ _ ∧ _ ≤ ((h.wet.set J _).getD i (0, 0)).2
  rw [List.getD_eq_getElem?_getD (l := h.wet.set J _), List.getElem?_set]
  by_cases e : J = i
  · subst e
    rw [if_pos rfl, if_pos hJ, getD_lt hJ, hr]
    simp only [Option.getD_some]
    omega
  · rw [if_neg e, ← List.getD_eq_getElem?_getD]
    exact ⟨Int.le_refl _, Int.le_refl _⟩
/-- An error that is greater. -/
theorem wider_rdg {h : HeapD} (hS : Sound h) {J : Nat} (hJ : J < h.readings.length) {r : Rdg} (hr : h.readings[J] = r) {low : Int} (h1 : 0 ≤ low) (hS2 : Sound { h with readings := h.readings.set J (r.1, r.2.1, min 50 (r.2.2 + low)) }) :
    Wider h { h with readings := h.readings.set J (r.1, r.2.1, min 50 (r.2.2 + low)) } := by
  have hrb := hS.rdg r (by rw [← hr]; exact List.getElem_mem hJ)
  refine ⟨hS2, hS, rfl, rfl, rfl, rfl, rfl, rfl, ⟨Int.le_refl _, Int.le_refl _⟩, rfl, fun i _ => ⟨Int.le_refl _, Int.le_refl _⟩, by simp, fun i hi => ?_⟩
  show ((h.readings.set J _).getD i (0, 0, 0)).1 = _ ∧ ((h.readings.set J _).getD i (0, 0, 0)).2.1 = _ ∧ _ ≤ ((h.readings.set J _).getD i (0, 0, 0)).2.2
  rw [List.getD_eq_getElem?_getD (l := h.readings.set J _), List.getElem?_set]
  by_cases e : J = i
  · subst e
    rw [if_pos rfl, if_pos hJ, getD_lt hJ, hr]
    simp only [Option.getD_some, true_and]
    omega
  · rw [if_neg e, ← List.getD_eq_getElem?_getD]
    exact ⟨rfl, rfl, Int.le_refl _⟩

theorem owns_ne13 {W : World} {base s n b : Nat} {e t : TypeId} {v : Value} {xs : List Value} {cs : Array Value} (h : W.ownsRow base e s v n xs) (hb : W.heap[b]? = some (.cells cs t (0, 0))) (hne : e ≠ t) : v.ownBlock ≠ some b := by
  intro hv
  obtain ⟨_, ⟨rfl, _⟩ | ⟨g, c, cur, rfl, _, hg, _⟩⟩ := h
  · cases hv
  · have : g = b := by simpa [Value.ownBlock] using hv
    subst this
    rw [hg] at hb
    simp only [Option.some.injEq, Obj.cells.injEq] at hb
    exact hne hb.2.1

set_option maxHeartbeats 4000000 in
theorem CouchWider_any (h : HeapD) (wv tv xv' : Value) (wh bh bs : Nat) (w : World) (hw : PairsAt w wv h.wet) (ht : IntsAt w tv h.turns) (hx : TriplesAt w xv' h.readings) (hwh : (wh : Int) ≤ 255) (hbh : (bh : Int) ≤ 255) (hbs : (bs : Int) ≤ 65535) :
    Calls Try.prog 9 #[hv h wv tv xv', .int .u8 wh, .int .u8 bh, .int .u16 bs] w (PV (.bool true) w) := by
  obtain ⟨ow, cw, rfl⟩ := hw.open
  obtain ⟨ot, ct, rfl⟩ := ht.open
  obtain ⟨ox, cx, rfl⟩ := hx.open
  have HW := Lib.hid hw
  have HT := Lib.hid ht
  have HX := Lib.hid hx
  clear hw ht hx
  have HB0 := Lib.hid (Below.refl (w.alloc (.cells #[.int .i64 h.last, .int .i64 h.size, .int .i64 h.cool, .int .i64 h.die, .int .i64 h.burn, .int .i64 h.start.1, .int .i64 h.start.2, .slice ow h.wet.length cw, .slice ot h.turns.length ct, .slice ox h.readings.length cx] 28)).heap.size (w.alloc (.cells #[.int .i64 h.last, .int .i64 h.size, .int .i64 h.cool, .int .i64 h.die, .int .i64 h.burn, .int .i64 h.start.1, .int .i64 h.start.2, .slice ow h.wet.length cw, .slice ot h.turns.length ct, .slice ox h.readings.length cx] 28)))
  cases hry : readyB h
  case false =>
    have HR := Lib.hid hry
    clear hry
    go_enter Try.func9, Try.ntmps9
    go_wp2_with fail
    refine (ready_any h _ _ _ _ ((HW.out.alloc _).below HB0.out (Nat.le_refl _)) ((HT.out.alloc _).below HB0.out (Nat.le_refl _)) ((HX.out.alloc _).below HB0.out (Nat.le_refl _))).mono ?_
    rw [HR.out]
    rintro e W1 ⟨rfl, hb⟩
    (try clear hcr hsr)
    have HD1 := Lib.hid hb
    have HB1 := Lib.hid (bgo HB0.out hb)
    obtain ⟨hcr, _, hsr⟩ := cells_of_block ((HB1.out.block w.heap.size (by simp)).trans (heap_new0 w _))
    clear hb
    go_wp2_with fail
    refine (awake_any _).mono ?_
    rintro e W2 ⟨rfl, hb⟩
    (try clear hcr hsr)
    have HD2 := Lib.hid hb
    have HB2 := Lib.hid (bgo HB1.out hb)
    obtain ⟨hcr, _, hsr⟩ := cells_of_block ((HB2.out.block w.heap.size (by simp)).trans (heap_new0 w _))
    clear hb
    go_wp2_with fail
    go_returns
    exact ⟨by simp, bgo (bgoAlloc (Below.refl _ _) _) HB2.out⟩
  obtain ⟨hS, hf0, hm100, hl12⟩ := ready_sound hry
  have hw10 : h.wet.length ≤ 10 := by have := hS.wetLen; have := hS.last9; omega
  have hx5 := hS.rdgs
  have hl0 := hS.last0
  have hl9 := hS.last9
  have hs00 := hS.start0
  have hs01 := hS.start1
  have hs02 := hS.start2
  have HR := Lib.hid hry
  have HS := Lib.hid hS
  have HF0 := Lib.hid hf0
  have htu := turned_turns (h := h) hl0 bs
  have HTU := Lib.hid htu
  have hTL : (turnedL h bs).length ≤ 10 := by
    have := ((turns_inc hl0 _).1 htu).len
    omega
  obtain ⟨low, hlow⟩ : ∃ low, (bh : Int) % 3 = low := ⟨_, rfl⟩
  obtain ⟨high, hhigh⟩ : ∃ high, (bh : Int) / 4 % 3 = high := ⟨_, rfl⟩
  obtain ⟨kk, hkk⟩ : ∃ kk : Nat, (wh : Int) / 3 = kk := Int.eq_ofNat_of_zero_le (by omega)
  have hlow2 : 0 ≤ low ∧ low ≤ 2 := by omega
  have hhigh2 : 0 ≤ high ∧ high ≤ 2 := by omega
  have hkk2 : (kk : Int) ≤ 85 := by omega
  clear hry hS hf0 hm100 htu
  go_enter Try.func9, Try.ntmps9
  go_wp2_with fail
  refine (ready_any h _ _ _ _ ((HW.out.alloc _).below HB0.out (Nat.le_refl _)) ((HT.out.alloc _).below HB0.out (Nat.le_refl _)) ((HX.out.alloc _).below HB0.out (Nat.le_refl _))).mono ?_
  rw [HR.out]
  rintro e W1 ⟨rfl, hb⟩
  (try clear hcr hsr)
  have HD1 := Lib.hid hb
  have HB1 := Lib.hid (bgo HB0.out hb)
  obtain ⟨hcr, _, hsr⟩ := cells_of_block ((HB1.out.block w.heap.size (by simp)).trans (heap_new0 w _))
  clear hb
  go_wp2_with fail
  refine gworld fun W2 hW2 => ?_
  have hb : Below W1.heap.size W1 W2 := by rw [hW2]; exact (by repeat (first | exact Below.refl _ _ | assumption | refine bgo ?_ (by assumption) | refine bgoAlloc ?_ _ | refine bgoDrew ?_ | refine bgoSet ?_ (by simp; omega) _))
  have HXB2 := Lib.hid (show W2.heap[W1.heap.size]? = some (.cells #[.int .i64 h.last, .int .i64 h.size, .int .i64 h.cool, .int .i64 h.die, .int .i64 h.burn, .int .i64 h.start.1, .int .i64 h.start.2, .slice ow h.wet.length cw, .slice ot h.turns.length ct, .slice ox h.readings.length cx] 28 (0, 0)) from by rw [hW2]; exact heap_new0 _ _)
  clear hW2
  (try clear hcr hsr)
  have HD2 := Lib.hid hb
  have HB2 := Lib.hid (bgo HB1.out hb)
  obtain ⟨hcr, _, hsr⟩ := cells_of_block ((HB2.out.block w.heap.size (by simp)).trans (heap_new0 w _))
  clear hb
  have hwx : w.heap.size < W1.heap.size := by
    have := HB1.out.size
    simp only [World.size_alloc] at this
    omega
  have hwx1 : w.heap.size ≠ W1.heap.size := by omega
  have hwx2 : W1.heap.size ≠ w.heap.size := by omega
  obtain ⟨hcx, _, hsx⟩ := cells_of_block HXB2.out
  have HX2 := Lib.hid ((HX.out.alloc _).below HB1.out (Nat.le_refl _))
  have HW2 := Lib.hid ((HW.out.alloc _).below HB1.out (Nat.le_refl _))
  refine wp_region_rg 11 [W1.heap.size] (some 9) [(0, Spec.slice W2.heap.size #[] 23 0), (3, ⟨fun _ v => ∃ o c, v = .slice o h.wet.length c, fun _ v Wx => Wx.ownsRow W2.heap.size 23 2 v h.wet.length (pairCells h.wet)⟩), (4, Spec.slice W2.heap.size #[] 79 0), (7, ⟨fun _ v => ∃ o c, v = .slice o h.readings.length c, fun _ v Wx => Wx.ownsRow W2.heap.size 79 3 v h.readings.length (tripleCells h.readings)⟩), (9, ⟨fun _ v => v = undef, fun xs _ Wx => ∃ p v, xs = [p, v] ∧ Wx.heap[W1.heap.size]? = some (.cells #[iv h.last, iv h.size, iv h.cool, iv h.die, iv h.burn, iv h.start.1, iv h.start.2, v, .slice ot h.turns.length ct, .slice ox h.readings.length cx] 28 (0, 0))⟩)] (by kernel_rfl) (by kernel_rfl) ?_
  simp only [List.take_succ_cons, List.take_zero, List.drop_succ_cons, List.drop_zero]
  repeat (first | (refine tree_det (by rfl) _ (by rfl) (fun W hW => by go_simp; try rfl) ?_; simp only [Act.put, List.setIfInBounds_toArray, List.set_cons_succ, List.set_cons_zero]) | (refine tree_skip (by rfl) (by rfl) ?_; simp only [Act.put, List.setIfInBounds_toArray, List.set_cons_succ, List.set_cons_zero]))
  refine tree_slice W2.heap.size _ _ 0 (by rfl) (Nat.le_refl _) (by rfl) (by simpa using hsx) (by simp) (fun W hW => by go_simp; try rfl) (fun b0 => ?_)
  simp only [Act.put, List.setIfInBounds_toArray, List.set_cons_succ, List.set_cons_zero]
  repeat (first | (refine tree_det (by rfl) _ (by rfl) (fun W hW => by go_simp; try rfl) ?_; simp only [Act.put, List.setIfInBounds_toArray, List.set_cons_succ, List.set_cons_zero]) | (refine tree_skip (by rfl) (by rfl) ?_; simp only [Act.put, List.setIfInBounds_toArray, List.set_cons_succ, List.set_cons_zero]))
  refine tree_some _ (by rfl) (by rfl) (by exact ⟨.slice none h.wet.length 0, none, 0, rfl⟩) (fun W hE hF => ?_) (fun v Wa Wb ho hE => owns_ext (Ms := [W1.heap.size]) ho hE (by simpa using hsx)) (fun v hv => ?_)
  · have hE' : Ext [W1.heap.size] W2 W := hE
    obtain ⟨b', hb', hge, hc⟩ := hF _ (List.Mem.head _) (by kernel_rfl)
    cases hb'
    refine Does.mono (does_append_empty tRanges4 (by rfl) (by rfl) hge hc (by rfl) (HW2.out.below (below_of_ext HD2.out hE' (Nat.le_refl _)) (Nat.le_refl _)) (one_pairs _) (by omega) (by omega) hE'.size) ?_
    rintro v W' ⟨ho, hE2⟩
    exact ⟨owns_slice ho, ho, hE2⟩
  obtain ⟨oa, ca, rfl⟩ := hv
  simp only [Act.put, List.setIfInBounds_toArray, List.set_cons_succ, List.set_cons_zero]
  repeat (first | (refine tree_det (by rfl) _ (by rfl) (fun W hW => by go_simp; try rfl) ?_; simp only [Act.put, List.setIfInBounds_toArray, List.set_cons_succ, List.set_cons_zero]) | (refine tree_skip (by rfl) (by rfl) ?_; simp only [Act.put, List.setIfInBounds_toArray, List.set_cons_succ, List.set_cons_zero]))
  refine tree_slice W2.heap.size _ _ 0 (by rfl) (Nat.le_refl _) (by rfl) (by simpa using hsx) (by simp) (fun W hW => by go_simp; try rfl) (fun b4 => ?_)
  simp only [Act.put, List.setIfInBounds_toArray, List.set_cons_succ, List.set_cons_zero]
  repeat (first | (refine tree_det (by rfl) _ (by rfl) (fun W hW => by go_simp; try rfl) ?_; simp only [Act.put, List.setIfInBounds_toArray, List.set_cons_succ, List.set_cons_zero]) | (refine tree_skip (by rfl) (by rfl) ?_; simp only [Act.put, List.setIfInBounds_toArray, List.set_cons_succ, List.set_cons_zero]))
  refine tree_some _ (by rfl) (by rfl) (by exact ⟨.slice none h.readings.length 0, none, 0, rfl⟩) (fun W hE hF => ?_) (fun v Wa Wb ho hE => owns_ext (Ms := [W1.heap.size]) ho hE (by simpa using hsx)) (fun v hv => ?_)
  · have hE' : Ext [W1.heap.size] W2 W := hE
    obtain ⟨b', hb', hge, hc⟩ := hF _ (List.Mem.head _) (by kernel_rfl)
    cases hb'
    refine Does.mono (does_append_empty tReadings4 (by rfl) (by rfl) hge hc (by rfl) (HX2.out.below (below_of_ext HD2.out hE' (Nat.le_refl _)) (Nat.le_refl _)) (one_triples _) (by omega) (by omega) hE'.size) ?_
    rintro v W' ⟨ho, hE2⟩
    exact ⟨owns_slice ho, ho, hE2⟩
  obtain ⟨ob, cb, rfl⟩ := hv
  simp only [Act.put, List.setIfInBounds_toArray, List.set_cons_succ, List.set_cons_zero]
  repeat (first | (refine tree_det (by rfl) _ (by rfl) (fun W hW => by go_simp; try rfl) ?_; simp only [Act.put, List.setIfInBounds_toArray, List.set_cons_succ, List.set_cons_zero]) | (refine tree_skip (by rfl) (by rfl) ?_; simp only [Act.put, List.setIfInBounds_toArray, List.set_cons_succ, List.set_cons_zero]))
  refine tree_some _ (by rfl) (by rfl) (by exact ⟨_, rfl⟩) (fun W hE hF => ?_) (fun v Wa Wb ho hE => ?_) (fun v hv => ?_)
  · have hE' : Ext [] W2 W := hE
    have hbW : W.heap[W1.heap.size]? = some (.cells #[.int .i64 h.last, .int .i64 h.size, .int .i64 h.cool, .int .i64 h.die, .int .i64 h.burn, .int .i64 h.start.1, .int .i64 h.start.2, .slice ow h.wet.length cw, .slice ot h.turns.length ct, .slice ox h.readings.length cx] 28 (0, 0)) := (hE'.block _ hsx (by simp)).trans HXB2.out
    obtain ⟨hcw, hfw, hsw⟩ := cells_of_block hbW
    exact does_skip (W' := W.setCell ⟨W1.heap.size, 7, none⟩ (.slice oa h.wet.length ca)) (by go_simp; try rfl) ⟨rfl, ⟨_, _, rfl, set_block hbW _⟩, ext_set W ⟨W1.heap.size, 7, none⟩ _⟩
  · obtain ⟨p, v, hv, hc⟩ := ho
    have hE' : Ext [] Wa Wb := hE
    exact ⟨p, v, hv, (hE'.block _ (Array.getElem?_eq_some_iff.1 hc).1 (by simp)).trans hc⟩
  obtain rfl : v = _ := hv
  simp only [Act.put]
  repeat (first | (refine tree_det (by rfl) _ (by rfl) (fun W hW => by go_simp; try rfl) ?_; simp only [Act.put, List.setIfInBounds_toArray, List.set_cons_succ, List.set_cons_zero]) | (refine tree_skip (by rfl) (by rfl) ?_; simp only [Act.put, List.setIfInBounds_toArray, List.set_cons_succ, List.set_cons_zero]))
  intro W3 hE hF
  have hE' : Ext [W1.heap.size] W2 W3 := hE
  obtain ⟨p9, v9, hx9, hc9⟩ := hF _ (List.Mem.head _)
  obtain rfl : v9 = .slice oa h.wet.length ca := by
    have h9 : [Value.pointer (some ⟨W1.heap.size, 7, none⟩), .slice oa h.wet.length ca] = [p9, v9] := hx9
    simp at h9
    exact h9.2.symm
  have HXB3 := Lib.hid hc9
  have HOB : Hid (W3.ownsRow W2.heap.size 79 3 (.slice ob h.readings.length cb) h.readings.length (tripleCells h.readings)) := Lib.hid (hF _ (List.Mem.tail _ (List.Mem.head _)))
  have HOA : Hid (W3.ownsRow W2.heap.size 23 2 (.slice oa h.wet.length ca) h.wet.length (pairCells h.wet)) := Lib.hid (hF _ (List.Mem.tail _ (List.Mem.tail _ (List.Mem.tail _ (List.Mem.head _)))))
  have hb := below_of_ext HD2.out hE' (Nat.le_refl _)
  have hsz3 := hE'.size
  clear hE hF hE' hx9 hc9 hcx
  (try clear hcr hsr)
  have HD3 := Lib.hid hb
  have HB3 := Lib.hid (bgo HB1.out hb)
  obtain ⟨hcr, _, hsr⟩ := cells_of_block ((HB3.out.block w.heap.size (by simp)).trans (heap_new0 w _))
  clear hb
  obtain ⟨hcx, _, hsx3⟩ := cells_of_block HXB3.out
  obtain hw3 | hw3 | hw3 : (wh : Int) % 3 = 0 ∨ (wh : Int) % 3 = 1 ∨ (wh : Int) % 3 = 2 := by omega
  · go_wp2_with fail
    refine gcallsW fun B0 hB0 => ?_
    have hbB : Below W1.heap.size W1 B0 := by rw [hB0]; exact bgoSet (bgoSet (bgoSet HD3.out (Nat.le_refl _) _) (Nat.le_refl _) _) (Nat.le_refl _) _
    have hX2 : B0.heap[W1.heap.size]? = some (.cells #[iv h.last, iv h.size, iv h.cool, iv h.die, iv h.burn, iv (max 0 (h.start.1 - low)), iv (min 500 (h.start.2 + high)), .slice oa h.wet.length ca, .slice ot h.turns.length ct, .slice ob h.readings.length cb] 28 (0, 0)) := by rw [hB0]; exact set_block (set_block (set_block HXB3.out _) _) _
    have HXW0 : Hid (PairsAt B0 (.slice oa h.wet.length ca) h.wet) := Lib.hid (by
      rw [hB0]
      exact SlAt.of_owns (owns_ext (Ms := [W1.heap.size]) (owns_ext (Ms := [W1.heap.size]) (owns_ext (Ms := [W1.heap.size]) HOA.out (ext_set _ ⟨W1.heap.size, 9, none⟩ _) (by simpa using hsx)) (ext_set _ ⟨W1.heap.size, 5, none⟩ _) (by simpa using hsx)) (ext_set _ ⟨W1.heap.size, 6, none⟩ _) (by simpa using hsx)))
    have HXR0 : Hid (TriplesAt B0 (.slice ob h.readings.length cb) h.readings) := Lib.hid (by
      rw [hB0]
      exact SlAt.of_owns (owns_ext (Ms := [W1.heap.size]) (owns_ext (Ms := [W1.heap.size]) (owns_ext (Ms := [W1.heap.size]) HOB.out (ext_set _ ⟨W1.heap.size, 9, none⟩ _) (by simpa using hsx)) (ext_set _ ⟨W1.heap.size, 5, none⟩ _) (by simpa using hsx)) (ext_set _ ⟨W1.heap.size, 6, none⟩ _) (by simpa using hsx)))
    clear hB0
    have HBB := Lib.hid (show Below w.heap.size w B0 from bgo (bgoAlloc (Below.refl _ _) _) (show Below (w.alloc (.cells #[.int .i64 h.last, .int .i64 h.size, .int .i64 h.cool, .int .i64 h.die, .int .i64 h.burn, .int .i64 h.start.1, .int .i64 h.start.2, .slice ow h.wet.length cw, .slice ot h.turns.length ct, .slice ox h.readings.length cx] 28)).heap.size _ B0 from bgo HB1.out hbB))
    have HX1 := Lib.hid (show B0.heap[w.heap.size]? = some (.cells #[.int .i64 h.last, .int .i64 h.size, .int .i64 h.cool, .int .i64 h.die, .int .i64 h.burn, .int .i64 h.start.1, .int .i64 h.start.2, .slice ow h.wet.length cw, .slice ot h.turns.length ct, .slice ox h.readings.length cx] 28 (0, 0)) from (hbB.block _ hwx).trans ((HB1.out.block w.heap.size (by simp)).trans (heap_new0 w _)))
    have HX2 := Lib.hid (show B0.heap[W1.heap.size]? = some (.cells #[iv h.last, iv h.size, iv h.cool, iv h.die, iv h.burn, iv (max 0 (h.start.1 - low)), iv (min 500 (h.start.2 + high)), .slice oa h.wet.length ca, .slice ot h.turns.length ct, .slice ob h.readings.length cb] 28 (0, 0)) from hX2)
    have HW0 := Lib.hid (HW.out.below HBB.out (Nat.le_refl _))
    have HT0 := Lib.hid (HT.out.below HBB.out (Nat.le_refl _))
    have HX0 := Lib.hid (HX.out.below HBB.out (Nat.le_refl _))
    (try clear HB0)
    (try clear HB1)
    (try clear HB2)
    (try clear HB3)
    (try clear HD1)
    (try clear HD2)
    (try clear HD3)
    (try clear hbB)
    (try clear hX2)
    (try clear hcx)
    (try clear hcr)
    (try clear hsr)
    (try clear hcA)
    (try clear hwx1)
    (try clear hwx2)
    (try clear hsx3)
    (try clear HXB2)
    (try clear HXB3)
    (try clear HOA)
    (try clear HOB)
    (try clear HXB4)
    (try clear HOA4)
    (try clear HOB4)
    (try clear HD4)
    (try clear HE5)
    (try clear HXB5)
    (try clear HOA5)
    (try clear HOB5)
    (try clear HD5)
    (try clear HE6)
    (try clear HC6)
    (try clear HXB6)
    (try clear HOB6)
    (try clear HD6)
    (try clear hsx4)
    (try clear hsx5)
    (try clear hsx6)
    (try clear hd6)
    (try clear hfg6)
    (try clear hsg6)
    (try clear hgx)
    (try clear hgx2)
    (try clear hgw1)
    (try clear hgw2)
    (try clear hwx)
    (try clear hsx)
    have HB0 := Lib.hid (Below.refl B0.heap.size B0)
    cases hr2 : readyB ({ h with start := (max 0 (h.start.1 - low), min 500 (h.start.2 + high)) })
    case false =>
      have HR2 := Lib.hid hr2
      clear hr2
      refine (ready_any ({ h with start := (max 0 (h.start.1 - low), min 500 (h.start.2 + high)) }) _ _ _ _ (HXW0.out.below HB0.out (Nat.le_refl _)) (HT0.out.below HB0.out (Nat.le_refl _)) (HXR0.out.below HB0.out (Nat.le_refl _))).mono ?_
      rw [HR2.out]
      rintro e W1 ⟨rfl, hb⟩
      (try clear hc1 hs1 hc2 hs2)
      have HD1 := Lib.hid hb
      have HB1 := Lib.hid (bgo HB0.out hb)
      obtain ⟨hc1, _, hs1⟩ := cells_of_block ((HB1.out.block _ (cells_of_block HX1.out).2.2).trans HX1.out)
      obtain ⟨hc2, _, hs2⟩ := cells_of_block ((HB1.out.block _ (cells_of_block HX2.out).2.2).trans HX2.out)
      clear hb
      go_wp2_with fail
      refine (awake_any _).mono ?_
      rintro e W2 ⟨rfl, hb⟩
      (try clear hc1 hs1 hc2 hs2)
      have HD2 := Lib.hid hb
      have HB2 := Lib.hid (bgo HB1.out hb)
      obtain ⟨hc1, _, hs1⟩ := cells_of_block ((HB2.out.block _ (cells_of_block HX1.out).2.2).trans HX1.out)
      obtain ⟨hc2, _, hs2⟩ := cells_of_block ((HB2.out.block _ (cells_of_block HX2.out).2.2).trans HX2.out)
      clear hb
      go_wp2_with fail
      go_returns
      exact ⟨by simp, bgo HBB.out HB2.out⟩
    have HR2 := Lib.hid hr2
    obtain ⟨hS2, hf2, _, _⟩ := ready_sound hr2
    have HXL : Hid (({ h with start := (max 0 (h.start.1 - low), min 500 (h.start.2 + high)) }).wet.length ≤ 10 ∧ ({ h with start := (max 0 (h.start.1 - low), min 500 (h.start.2 + high)) }).readings.length ≤ 5) := Lib.hid ⟨by have h1 : (({ h with start := (max 0 (h.start.1 - low), min 500 (h.start.2 + high)) }).wet.length : Int) = ({ h with start := (max 0 (h.start.1 - low), min 500 (h.start.2 + high)) }).last + 1 := hS2.wetLen; have h2 : ({ h with start := (max 0 (h.start.1 - low), min 500 (h.start.2 + high)) }).last ≤ 9 := hS2.last9; omega, hS2.rdgs⟩
    have hwid : Wider h ({ h with start := (max 0 (h.start.1 - low), min 500 (h.start.2 + high)) }) := ⟨hS2, HS.out, rfl, rfl, rfl, rfl, rfl, rfl, by simp only; omega, rfl, fun i _ => ⟨Int.le_refl _, Int.le_refl _⟩, rfl, fun i _ => ⟨rfl, rfl, Int.le_refl _⟩⟩
    obtain ⟨hm1, hm3⟩ := wider_plain hwid
    obtain ⟨L1, hL1⟩ : ∃ L, leaveL h = L := ⟨_, rfl⟩
    obtain ⟨L2, hL2⟩ : ∃ L, leaveL ({ h with start := (max 0 (h.start.1 - low), min 500 (h.start.2 + high)) }) = L := ⟨_, rfl⟩
    replace hm1 : L2.length ≤ L1.length := by rw [← hL1, ← hL2]; exact hm1
    replace hm3 : L1 = [] → _ := fun e => hm3 (hL1.trans e)
    have HL := Lib.hid (And.intro hL1 hL2)
    have HF := Lib.hid (And.intro HF0.out hf2)
    have hm1I : ¬ (L1.length : Int) < L2.length := by omega
    have hm1d : decide (L1.length < L2.length) = false := decide_eq_false (by omega)
    by_cases h0 : 0 < L1.length
    case pos =>
      have h0I : (0 : Int) < L1.length := by omega
      clear hr2 hS2 hf2 hm3 hL1 hL2 hwid
      refine (ready_any ({ h with start := (max 0 (h.start.1 - low), min 500 (h.start.2 + high)) }) _ _ _ _ (HXW0.out.below HB0.out (Nat.le_refl _)) (HT0.out.below HB0.out (Nat.le_refl _)) (HXR0.out.below HB0.out (Nat.le_refl _))).mono ?_
      rw [HR2.out]
      rintro e W1 ⟨rfl, hb⟩
      (try clear hc1 hs1 hc2 hs2)
      have HD1 := Lib.hid hb
      have HB1 := Lib.hid (bgo HB0.out hb)
      obtain ⟨hc1, _, hs1⟩ := cells_of_block ((HB1.out.block _ (cells_of_block HX1.out).2.2).trans HX1.out)
      obtain ⟨hc2, _, hs2⟩ := cells_of_block ((HB1.out.block _ (cells_of_block HX2.out).2.2).trans HX2.out)
      clear hb
      go_wp2_with fail
      refine (Heap_any (h) _ _ _ _ (HW0.out.below HB1.out (Nat.le_refl _)) (HT0.out.below HB1.out (Nat.le_refl _)) (HX0.out.below HB1.out (Nat.le_refl _)) (by show h.wet.length ≤ 1000; omega) (by show h.turns.length ≤ 1000; omega) (by show h.readings.length ≤ 1000; omega)).mono ?_
      rintro e W2 ⟨a2, b2, c2, rfl, h1, h2, h3, hb⟩
      (try clear hc1 hs1 hc2 hs2)
      have HD2 := Lib.hid hb
      have HB2 := Lib.hid (bgo HB1.out hb)
      obtain ⟨hc1, _, hs1⟩ := cells_of_block ((HB2.out.block _ (cells_of_block HX1.out).2.2).trans HX1.out)
      obtain ⟨hc2, _, hs2⟩ := cells_of_block ((HB2.out.block _ (cells_of_block HX2.out).2.2).trans HX2.out)
      clear hb
      have HH2 := Lib.hid (And.intro h1 (And.intro h2 h3))
      clear h1 h2 h3
      go_wp2_with fail
      refine (Leave_any (h) _ _ _ _ HH2.out.1 HH2.out.2.1 HH2.out.2.2).mono ?_
      rintro e W3 ⟨v, rfl, hv, hb⟩
      rw [HF.out.1]
      rw [HL.out.1] at hv
      obtain ⟨o3, k3, rfl⟩ := hv.open
      clear hv
      (try clear hc1 hs1 hc2 hs2)
      have HD3 := Lib.hid hb
      have HB3 := Lib.hid (bgo HB2.out hb)
      obtain ⟨hc1, _, hs1⟩ := cells_of_block ((HB3.out.block _ (cells_of_block HX1.out).2.2).trans HX1.out)
      obtain ⟨hc2, _, hs2⟩ := cells_of_block ((HB3.out.block _ (cells_of_block HX2.out).2.2).trans HX2.out)
      clear hb
      go_wp2_with fail
      refine (Heap_any ({ h with start := (max 0 (h.start.1 - low), min 500 (h.start.2 + high)) }) _ _ _ _ (HXW0.out.below HB3.out (Nat.le_refl _)) (HT0.out.below HB3.out (Nat.le_refl _)) (HXR0.out.below HB3.out (Nat.le_refl _)) (Nat.le_trans HXL.out.1 (by omega)) (by show h.turns.length ≤ 1000; omega) (Nat.le_trans HXL.out.2 (by omega))).mono ?_
      rintro e W4 ⟨a4, b4, c4, rfl, h1, h2, h3, hb⟩
      (try clear hc1 hs1 hc2 hs2)
      have HD4 := Lib.hid hb
      have HB4 := Lib.hid (bgo HB3.out hb)
      obtain ⟨hc1, _, hs1⟩ := cells_of_block ((HB4.out.block _ (cells_of_block HX1.out).2.2).trans HX1.out)
      obtain ⟨hc2, _, hs2⟩ := cells_of_block ((HB4.out.block _ (cells_of_block HX2.out).2.2).trans HX2.out)
      clear hb
      have HH4 := Lib.hid (And.intro h1 (And.intro h2 h3))
      clear h1 h2 h3
      go_wp2_with fail
      refine (Leave_any ({ h with start := (max 0 (h.start.1 - low), min 500 (h.start.2 + high)) }) _ _ _ _ HH4.out.1 HH4.out.2.1 HH4.out.2.2).mono ?_
      rintro e W5 ⟨v, rfl, hv, hb⟩
      rw [HF.out.2]
      rw [HL.out.2] at hv
      obtain ⟨o5, k5, rfl⟩ := hv.open
      clear hv
      (try clear hc1 hs1 hc2 hs2)
      have HD5 := Lib.hid hb
      have HB5 := Lib.hid (bgo HB4.out hb)
      obtain ⟨hc1, _, hs1⟩ := cells_of_block ((HB5.out.block _ (cells_of_block HX1.out).2.2).trans HX1.out)
      obtain ⟨hc2, _, hs2⟩ := cells_of_block ((HB5.out.block _ (cells_of_block HX2.out).2.2).trans HX2.out)
      clear hb
      go_wp2_with fail
      refine (awake_any _).mono ?_
      rintro e W6 ⟨rfl, hb⟩
      (try clear hc1 hs1 hc2 hs2)
      have HD6 := Lib.hid hb
      have HB6 := Lib.hid (bgo HB5.out hb)
      obtain ⟨hc1, _, hs1⟩ := cells_of_block ((HB6.out.block _ (cells_of_block HX1.out).2.2).trans HX1.out)
      obtain ⟨hc2, _, hs2⟩ := cells_of_block ((HB6.out.block _ (cells_of_block HX2.out).2.2).trans HX2.out)
      clear hb
      go_wp2_with fail
      go_returns
      exact ⟨by simp, bgo HBB.out HB6.out⟩
    obtain rfl : L2 = [] := List.eq_nil_of_length_eq_zero (by omega)
    obtain rfl : L1 = [] := List.eq_nil_of_length_eq_zero (by omega)
    clear hm1 hm1I hm1d h0
    obtain ⟨hn, hsub⟩ := hm3 rfl
    obtain ⟨p1, p2, p3, _, p5, p6⟩ := hsub.plain hn (turns := turnedL h bs) HTU.out
    obtain ⟨B1, hB1⟩ : ∃ B, boundsOut h (turnedL h bs) = B := ⟨_, rfl⟩
    obtain ⟨B2, hB2⟩ : ∃ B, boundsOut ({ h with start := (max 0 (h.start.1 - low), min 500 (h.start.2 + high)) }) (turnedL h bs) = B := ⟨_, rfl⟩
    obtain ⟨n1, hn1⟩ : ∃ n, neededV h = n := ⟨_, rfl⟩
    obtain ⟨n2, hn2⟩ : ∃ n, neededV ({ h with start := (max 0 (h.start.1 - low), min 500 (h.start.2 + high)) }) = n := ⟨_, rfl⟩
    replace p3 : narrowerB B1 B2 = true := by rw [← hB1, ← hB2]; exact p3
    replace p5 : 0 ≤ n1 := by rw [← hn1]; exact p5
    replace p6 : n1 ≤ n2 := by rw [← hn1, ← hn2]; exact p6
    have HP := Lib.hid (And.intro p1 (And.intro p2 (And.intro p3 (And.intro hB1 (And.intro hB2 (And.intro hn1 hn2))))))
    have hn0 : ¬ n1 < 0 := by omega
    clear hr2 hS2 hf2 hL1 hL2 hm3 hn hsub p1 p2 p3 hB1 hB2 hn1 hn2 hwid
    refine (ready_any ({ h with start := (max 0 (h.start.1 - low), min 500 (h.start.2 + high)) }) _ _ _ _ (HXW0.out.below HB0.out (Nat.le_refl _)) (HT0.out.below HB0.out (Nat.le_refl _)) (HXR0.out.below HB0.out (Nat.le_refl _))).mono ?_
    rw [HR2.out]
    rintro e W1 ⟨rfl, hb⟩
    (try clear hc1 hs1 hc2 hs2)
    have HD1 := Lib.hid hb
    have HB1 := Lib.hid (bgo HB0.out hb)
    obtain ⟨hc1, _, hs1⟩ := cells_of_block ((HB1.out.block _ (cells_of_block HX1.out).2.2).trans HX1.out)
    obtain ⟨hc2, _, hs2⟩ := cells_of_block ((HB1.out.block _ (cells_of_block HX2.out).2.2).trans HX2.out)
    clear hb
    go_wp2_with fail
    refine (Heap_any (h) _ _ _ _ (HW0.out.below HB1.out (Nat.le_refl _)) (HT0.out.below HB1.out (Nat.le_refl _)) (HX0.out.below HB1.out (Nat.le_refl _)) (by show h.wet.length ≤ 1000; omega) (by show h.turns.length ≤ 1000; omega) (by show h.readings.length ≤ 1000; omega)).mono ?_
    rintro e W2 ⟨a2, b2, c2, rfl, h1, h2, h3, hb⟩
    (try clear hc1 hs1 hc2 hs2)
    have HD2 := Lib.hid hb
    have HB2 := Lib.hid (bgo HB1.out hb)
    obtain ⟨hc1, _, hs1⟩ := cells_of_block ((HB2.out.block _ (cells_of_block HX1.out).2.2).trans HX1.out)
    obtain ⟨hc2, _, hs2⟩ := cells_of_block ((HB2.out.block _ (cells_of_block HX2.out).2.2).trans HX2.out)
    clear hb
    have HH2 := Lib.hid (And.intro h1 (And.intro h2 h3))
    clear h1 h2 h3
    go_wp2_with fail
    refine (Leave_any (h) _ _ _ _ HH2.out.1 HH2.out.2.1 HH2.out.2.2).mono ?_
    rintro e W3 ⟨v, rfl, hv, hb⟩
    rw [HF.out.1]
    rw [HL.out.1] at hv
    obtain ⟨o3, k3, rfl⟩ := hv.open
    clear hv
    (try clear hc1 hs1 hc2 hs2)
    have HD3 := Lib.hid hb
    have HB3 := Lib.hid (bgo HB2.out hb)
    obtain ⟨hc1, _, hs1⟩ := cells_of_block ((HB3.out.block _ (cells_of_block HX1.out).2.2).trans HX1.out)
    obtain ⟨hc2, _, hs2⟩ := cells_of_block ((HB3.out.block _ (cells_of_block HX2.out).2.2).trans HX2.out)
    clear hb
    go_wp2_with fail
    refine (Heap_any ({ h with start := (max 0 (h.start.1 - low), min 500 (h.start.2 + high)) }) _ _ _ _ (HXW0.out.below HB3.out (Nat.le_refl _)) (HT0.out.below HB3.out (Nat.le_refl _)) (HXR0.out.below HB3.out (Nat.le_refl _)) (Nat.le_trans HXL.out.1 (by omega)) (by show h.turns.length ≤ 1000; omega) (Nat.le_trans HXL.out.2 (by omega))).mono ?_
    rintro e W4 ⟨a4, b4, c4, rfl, h1, h2, h3, hb⟩
    (try clear hc1 hs1 hc2 hs2)
    have HD4 := Lib.hid hb
    have HB4 := Lib.hid (bgo HB3.out hb)
    obtain ⟨hc1, _, hs1⟩ := cells_of_block ((HB4.out.block _ (cells_of_block HX1.out).2.2).trans HX1.out)
    obtain ⟨hc2, _, hs2⟩ := cells_of_block ((HB4.out.block _ (cells_of_block HX2.out).2.2).trans HX2.out)
    clear hb
    have HH4 := Lib.hid (And.intro h1 (And.intro h2 h3))
    clear h1 h2 h3
    go_wp2_with fail
    refine (Leave_any ({ h with start := (max 0 (h.start.1 - low), min 500 (h.start.2 + high)) }) _ _ _ _ HH4.out.1 HH4.out.2.1 HH4.out.2.2).mono ?_
    rintro e W5 ⟨v, rfl, hv, hb⟩
    rw [HF.out.2]
    rw [HL.out.2] at hv
    obtain ⟨o5, k5, rfl⟩ := hv.open
    clear hv
    (try clear hc1 hs1 hc2 hs2)
    have HD5 := Lib.hid hb
    have HB5 := Lib.hid (bgo HB4.out hb)
    obtain ⟨hc1, _, hs1⟩ := cells_of_block ((HB5.out.block _ (cells_of_block HX1.out).2.2).trans HX1.out)
    obtain ⟨hc2, _, hs2⟩ := cells_of_block ((HB5.out.block _ (cells_of_block HX2.out).2.2).trans HX2.out)
    clear hb
    go_wp2_with fail
    refine (turned_any h _ _ _ bs _ hl0 hl9 hbs).mono ?_
    rintro e W6 ⟨v, rfl, hv, hb⟩
    obtain ⟨o6, k6, rfl⟩ := hv.open
    have HTU6 := Lib.hid hv
    clear hv
    (try clear hc1 hs1 hc2 hs2)
    have HD6 := Lib.hid hb
    have HB6 := Lib.hid (bgo HB5.out hb)
    obtain ⟨hc1, _, hs1⟩ := cells_of_block ((HB6.out.block _ (cells_of_block HX1.out).2.2).trans HX1.out)
    obtain ⟨hc2, _, hs2⟩ := cells_of_block ((HB6.out.block _ (cells_of_block HX2.out).2.2).trans HX2.out)
    clear hb
    go_wp2_with fail
    refine (Heap_any (h) _ _ _ _ (HW0.out.below HB6.out (Nat.le_refl _)) (HT0.out.below HB6.out (Nat.le_refl _)) (HX0.out.below HB6.out (Nat.le_refl _)) (by show h.wet.length ≤ 1000; omega) (by show h.turns.length ≤ 1000; omega) (by show h.readings.length ≤ 1000; omega)).mono ?_
    rintro e W7 ⟨a7, b7, c7, rfl, h1, h2, h3, hb⟩
    (try clear hc1 hs1 hc2 hs2)
    have HD7 := Lib.hid hb
    have HB7 := Lib.hid (bgo HB6.out hb)
    obtain ⟨hc1, _, hs1⟩ := cells_of_block ((HB7.out.block _ (cells_of_block HX1.out).2.2).trans HX1.out)
    obtain ⟨hc2, _, hs2⟩ := cells_of_block ((HB7.out.block _ (cells_of_block HX2.out).2.2).trans HX2.out)
    clear hb
    have HH7 := Lib.hid (And.intro h1 (And.intro h2 h3))
    clear h1 h2 h3
    go_wp2_with fail
    have HTU7 := Lib.hid (SlAt.below HTU6.out HD7.out (Nat.le_refl _))
    refine (list_any (turnedL h bs) _ _ (HTU7.out) (by omega)).mono ?_
    rintro e W8 ⟨v, rfl, ho, hb⟩
    obtain ⟨o8, k8, rfl⟩ := owns_slice ho
    have HV8 := Lib.hid (SlAt.of_owns ho)
    clear ho
    (try clear hc1 hs1 hc2 hs2)
    have HD8 := Lib.hid hb
    have HB8 := Lib.hid (bgo HB7.out hb)
    obtain ⟨hc1, _, hs1⟩ := cells_of_block ((HB8.out.block _ (cells_of_block HX1.out).2.2).trans HX1.out)
    obtain ⟨hc2, _, hs2⟩ := cells_of_block ((HB8.out.block _ (cells_of_block HX2.out).2.2).trans HX2.out)
    clear hb
    go_wp2_with fail
    have HTU8 := Lib.hid (SlAt.below HTU7.out HD8.out (Nat.le_refl _))
    refine (Bounds_any (h) _ _ _ _ (turnedL h bs) _ (HH7.out.1.below HD8.out (Nat.le_refl _)) (HH7.out.2.1.below HD8.out (Nat.le_refl _)) (HH7.out.2.2.below HD8.out (Nat.le_refl _)) HV8.out).mono ?_
    rintro e W9 ⟨v, rfl, hv, hb⟩
    rw [HP.out.1]
    rw [HP.out.2.2.2.1] at hv
    obtain ⟨o9, k9, rfl⟩ := SlAt.open hv
    have HV9 := Lib.hid hv
    clear hv
    (try clear hc1 hs1 hc2 hs2)
    have HD9 := Lib.hid hb
    have HB9 := Lib.hid (bgo HB8.out hb)
    obtain ⟨hc1, _, hs1⟩ := cells_of_block ((HB9.out.block _ (cells_of_block HX1.out).2.2).trans HX1.out)
    obtain ⟨hc2, _, hs2⟩ := cells_of_block ((HB9.out.block _ (cells_of_block HX2.out).2.2).trans HX2.out)
    clear hb
    go_wp2_with fail
    have HTU9 := Lib.hid (SlAt.below HTU8.out HD9.out (Nat.le_refl _))
    refine (Heap_any ({ h with start := (max 0 (h.start.1 - low), min 500 (h.start.2 + high)) }) _ _ _ _ (HXW0.out.below HB9.out (Nat.le_refl _)) (HT0.out.below HB9.out (Nat.le_refl _)) (HXR0.out.below HB9.out (Nat.le_refl _)) (Nat.le_trans HXL.out.1 (by omega)) (by show h.turns.length ≤ 1000; omega) (Nat.le_trans HXL.out.2 (by omega))).mono ?_
    rintro e W10 ⟨a10, b10, c10, rfl, h1, h2, h3, hb⟩
    (try clear hc1 hs1 hc2 hs2)
    have HD10 := Lib.hid hb
    have HB10 := Lib.hid (bgo HB9.out hb)
    obtain ⟨hc1, _, hs1⟩ := cells_of_block ((HB10.out.block _ (cells_of_block HX1.out).2.2).trans HX1.out)
    obtain ⟨hc2, _, hs2⟩ := cells_of_block ((HB10.out.block _ (cells_of_block HX2.out).2.2).trans HX2.out)
    clear hb
    have HH10 := Lib.hid (And.intro h1 (And.intro h2 h3))
    clear h1 h2 h3
    go_wp2_with fail
    have HTU10 := Lib.hid (SlAt.below HTU9.out HD10.out (Nat.le_refl _))
    refine (list_any (turnedL h bs) _ _ (HTU10.out) (by omega)).mono ?_
    rintro e W11 ⟨v, rfl, ho, hb⟩
    obtain ⟨o11, k11, rfl⟩ := owns_slice ho
    have HV11 := Lib.hid (SlAt.of_owns ho)
    clear ho
    (try clear hc1 hs1 hc2 hs2)
    have HD11 := Lib.hid hb
    have HB11 := Lib.hid (bgo HB10.out hb)
    obtain ⟨hc1, _, hs1⟩ := cells_of_block ((HB11.out.block _ (cells_of_block HX1.out).2.2).trans HX1.out)
    obtain ⟨hc2, _, hs2⟩ := cells_of_block ((HB11.out.block _ (cells_of_block HX2.out).2.2).trans HX2.out)
    clear hb
    go_wp2_with fail
    refine (Bounds_any ({ h with start := (max 0 (h.start.1 - low), min 500 (h.start.2 + high)) }) _ _ _ _ (turnedL h bs) _ (HH10.out.1.below HD11.out (Nat.le_refl _)) (HH10.out.2.1.below HD11.out (Nat.le_refl _)) (HH10.out.2.2.below HD11.out (Nat.le_refl _)) HV11.out).mono ?_
    rintro e W12 ⟨v, rfl, hv, hb⟩
    rw [HP.out.2.1]
    rw [HP.out.2.2.2.2.1] at hv
    obtain ⟨o12, k12, rfl⟩ := SlAt.open hv
    have HV12 := Lib.hid hv
    clear hv
    (try clear hc1 hs1 hc2 hs2)
    have HD12 := Lib.hid hb
    have HB12 := Lib.hid (bgo HB11.out hb)
    obtain ⟨hc1, _, hs1⟩ := cells_of_block ((HB12.out.block _ (cells_of_block HX1.out).2.2).trans HX1.out)
    obtain ⟨hc2, _, hs2⟩ := cells_of_block ((HB12.out.block _ (cells_of_block HX2.out).2.2).trans HX2.out)
    clear hb
    go_wp2_with fail
    refine wp_region_rg 6 [] none [(1, Spec.val (iv n1)), (3, Spec.val (iv n2))] (by kernel_rfl) (by kernel_rfl) ?_
    simp only [List.take_succ_cons, List.take_zero, List.drop_succ_cons, List.drop_zero]
    repeat (first | (refine tree_det (by rfl) _ (by rfl) (fun W hW => by go_simp; try rfl) ?_; simp only [Act.put, List.setIfInBounds_toArray, List.set_cons_succ, List.set_cons_zero]) | (refine tree_skip (by rfl) (by rfl) ?_; simp only [Act.put, List.setIfInBounds_toArray, List.set_cons_succ, List.set_cons_zero]))
    refine tree_val _ (by rfl) (by rfl) 44 _ (fun W hW => by go_simp; try rfl) (fun W hE hF => by exact by have := needed_any h _ _ _ W (SlAt.below (HW0.out.below HB12.out (Nat.le_refl _)) (Ext.below (show Ext [] W12 W from hE)) (Nat.le_refl _)) (SlAt.below (HT0.out.below HB12.out (Nat.le_refl _)) (Ext.below (show Ext [] W12 W from hE)) (Nat.le_refl _)) (SlAt.below (HX0.out.below HB12.out (Nat.le_refl _)) (Ext.below (show Ext [] W12 W from hE)) (Nat.le_refl _)) (by omega) (by omega) (by omega); rw [HP.out.2.2.2.2.2.1] at this; exact this) ?_
    simp only [Act.put, List.setIfInBounds_toArray, List.set_cons_succ, List.set_cons_zero]
    repeat (first | (refine tree_det (by rfl) _ (by rfl) (fun W hW => by go_simp; try rfl) ?_; simp only [Act.put, List.setIfInBounds_toArray, List.set_cons_succ, List.set_cons_zero]) | (refine tree_skip (by rfl) (by rfl) ?_; simp only [Act.put, List.setIfInBounds_toArray, List.set_cons_succ, List.set_cons_zero]))
    refine tree_val _ (by rfl) (by rfl) 44 _ (fun W hW => by go_simp; try rfl) (fun W hE hF => by exact by have := needed_any ({ h with start := (max 0 (h.start.1 - low), min 500 (h.start.2 + high)) }) _ _ _ W (SlAt.below (HXW0.out.below HB12.out (Nat.le_refl _)) (Ext.below (show Ext [] W12 W from hE)) (Nat.le_refl _)) (SlAt.below (HT0.out.below HB12.out (Nat.le_refl _)) (Ext.below (show Ext [] W12 W from hE)) (Nat.le_refl _)) (SlAt.below (HXR0.out.below HB12.out (Nat.le_refl _)) (Ext.below (show Ext [] W12 W from hE)) (Nat.le_refl _)) (Nat.le_trans HXL.out.1 (by omega)) (by show h.turns.length ≤ 1000; omega) (Nat.le_trans HXL.out.2 (by omega)); rw [HP.out.2.2.2.2.2.2] at this; exact this) ?_
    simp only [Act.put, List.setIfInBounds_toArray, List.set_cons_succ, List.set_cons_zero]
    repeat (first | (refine tree_det (by rfl) _ (by rfl) (fun W hW => by go_simp; try rfl) ?_; simp only [Act.put, List.setIfInBounds_toArray, List.set_cons_succ, List.set_cons_zero]) | (refine tree_skip (by rfl) (by rfl) ?_; simp only [Act.put, List.setIfInBounds_toArray, List.set_cons_succ, List.set_cons_zero]))
    intro W13 hE hF
    have hb := Ext.below (show Ext [] W12 W13 from hE)
    (try clear hc1 hs1 hc2 hs2)
    have HD13 := Lib.hid hb
    have HB13 := Lib.hid (bgo HB12.out hb)
    obtain ⟨hc1, _, hs1⟩ := cells_of_block ((HB13.out.block _ (cells_of_block HX1.out).2.2).trans HX1.out)
    obtain ⟨hc2, _, hs2⟩ := cells_of_block ((HB13.out.block _ (cells_of_block HX2.out).2.2).trans HX2.out)
    clear hb
    clear hE hF
    go_wp2_with fail
    have HN := narrower_any B1 B2 (.slice o9 B1.length k9) (.slice o12 B2.length k12) W13
      (SlAt.below (SlAt.below (SlAt.below (SlAt.below HV9.out HD10.out (Nat.le_refl _)) HD11.out (Nat.le_refl _)) HD12.out (Nat.le_refl _)) HD13.out (Nat.le_refl _))
      (SlAt.below HV12.out HD13.out (Nat.le_refl _))
    rw [HP.out.2.2.1] at HN
    refine HN.mono ?_
    clear HN
    rintro e W14 ⟨rfl, hb⟩
    (try clear hc1 hs1 hc2 hs2)
    have HD14 := Lib.hid hb
    have HB14 := Lib.hid (bgo HB13.out hb)
    obtain ⟨hc1, _, hs1⟩ := cells_of_block ((HB14.out.block _ (cells_of_block HX1.out).2.2).trans HX1.out)
    obtain ⟨hc2, _, hs2⟩ := cells_of_block ((HB14.out.block _ (cells_of_block HX2.out).2.2).trans HX2.out)
    clear hb
    go_wp2_with fail
    refine (awake_any _).mono ?_
    rintro e W15 ⟨rfl, hb⟩
    (try clear hc1 hs1 hc2 hs2)
    have HD15 := Lib.hid hb
    have HB15 := Lib.hid (bgo HB14.out hb)
    obtain ⟨hc1, _, hs1⟩ := cells_of_block ((HB15.out.block _ (cells_of_block HX1.out).2.2).trans HX1.out)
    obtain ⟨hc2, _, hs2⟩ := cells_of_block ((HB15.out.block _ (cells_of_block HX2.out).2.2).trans HX2.out)
    clear hb
    go_wp2_with fail
    go_returns
    exact ⟨by simp, bgo HBB.out HB15.out⟩
  · obtain ⟨J, hJ⟩ : ∃ J : Nat, (kk : Int) % (h.wet.length : Int) = J := Int.eq_ofNat_of_zero_le (Int.emod_nonneg _ (by have := HS.out.wetLen; omega))
    have hwn : h.wet.length ≠ 0 := by have := HS.out.wetLen; omega
    have HNZ : Hid (¬ h.wet = []) := Lib.hid (fun e => hwn (by rw [e]; rfl))
    have hJI : (J : Int) < h.wet.length := by have := Int.emod_lt_of_pos (kk : Int) (show 0 < (h.wet.length : Int) by omega); omega
    have hJl : J < h.wet.length := by omega
    clear hwn
    go_wp2_with fail
    refine gworld fun W4 hW4 => ?_
    have HXB4 := Lib.hid (show W4.heap[W1.heap.size]? = some (.cells #[iv h.last, iv h.size, iv h.cool, iv h.die, iv h.burn, iv h.start.1, iv h.start.2, .slice oa h.wet.length ca, .slice ot h.turns.length ct, .slice ob h.readings.length cb] 28 (0, 0)) from by rw [hW4]; exact set_block HXB3.out _)
    have HOA4 : Hid (W4.ownsRow W2.heap.size 23 2 (.slice oa h.wet.length ca) h.wet.length (pairCells h.wet)) := Lib.hid (by rw [hW4]; exact owns_ext (Ms := [W1.heap.size]) HOA.out (ext_set _ ⟨W1.heap.size, 9, none⟩ _) (by simpa using hsx))
    have HOB4 : Hid (W4.ownsRow W2.heap.size 79 3 (.slice ob h.readings.length cb) h.readings.length (tripleCells h.readings)) := Lib.hid (by rw [hW4]; exact owns_ext (Ms := [W1.heap.size]) HOB.out (ext_set _ ⟨W1.heap.size, 9, none⟩ _) (by simpa using hsx))
    have HD4 := Lib.hid (show Below W1.heap.size W1 W4 from by rw [hW4]; exact bgoSet HD3.out (Nat.le_refl _) _)
    obtain ⟨hcA, _, _⟩ := cells_of_block (((bgo HB1.out HD4.out).block w.heap.size (by simp)).trans (heap_new0 w _))
    obtain ⟨g, hog⟩ : ∃ g, oa = some ⟨g, 0, none⟩ := by
      obtain ⟨_, ⟨_, h2⟩ | ⟨g, cg', cur, hv, _⟩⟩ := HOA4.out
      · omega
      · cases hv; exact ⟨g, rfl⟩
    subst hog
    obtain ⟨b1, f1, he1, hz1, d1, d2⟩ := PairsAt.cell (SlAt.of_owns HOA4.out) hJl
    cases he1
    rw [Nat.zero_add] at d1 d2
    obtain ⟨r, hr⟩ : ∃ r, h.wet[J] = r := ⟨_, rfl⟩
    rw [hr] at d1 d2
    have hrb := HS.out.wet r (by rw [← hr]; exact List.getElem_mem hJl)
    have HRJ := Lib.hid hr
    clear hW4 hr hcx hcr
    obtain ⟨hcx, _, hsx4⟩ := cells_of_block HXB4.out
    obtain ⟨hge, _⟩ := owns_ge HOA4.out g rfl
    obtain ⟨rl, rh⟩ := r
    refine wp_region_rg 9 [] none [] (by kernel_rfl) (by kernel_rfl) ?_
    simp only [List.take_succ_cons, List.take_zero, List.drop_succ_cons, List.drop_zero]
    repeat (first | (refine tree_det (by rfl) _ (by rfl) (fun W hW => by go_simp; try rfl) ?_; simp only [Act.put, List.setIfInBounds_toArray, List.set_cons_succ, List.set_cons_zero]) | (refine tree_skip (by rfl) (by rfl) ?_; simp only [Act.put, List.setIfInBounds_toArray, List.set_cons_succ, List.set_cons_zero]))
    refine tree_det (by rfl) (.int .i64 (J : Int)) (by rfl) (fun W hW => by go_simp; (try simp (disch := omega) only [Int.tmod_eq_emod_of_nonneg]); rw [if_neg HNZ.out, hJ]) ?_
    simp only [Act.put, List.setIfInBounds_toArray, List.set_cons_succ, List.set_cons_zero]
    repeat (first | (refine tree_det (by rfl) _ (by rfl) (fun W hW => by go_simp; try rfl) ?_; simp only [Act.put, List.setIfInBounds_toArray, List.set_cons_succ, List.set_cons_zero]) | (refine tree_skip (by rfl) (by rfl) ?_; simp only [Act.put, List.setIfInBounds_toArray, List.set_cons_succ, List.set_cons_zero]))
    intro W5 hE hF
    have hE' : Ext [] W4 W5 := hE
    have HE5 := Lib.hid hE'
    have HXB5 := Lib.hid ((hE'.block _ hsx4 (by simp)).trans HXB4.out)
    have HOA5 : Hid (W5.ownsRow W2.heap.size 23 2 (.slice (some ⟨g, 0, none⟩) h.wet.length ca) h.wet.length (pairCells h.wet)) := Lib.hid (owns_ext (Ms := []) HOA4.out hE' (by simp))
    have HOB5 : Hid (W5.ownsRow W2.heap.size 79 3 (.slice ob h.readings.length cb) h.readings.length (tripleCells h.readings)) := Lib.hid (owns_ext (Ms := []) HOB4.out hE' (by simp))
    have HD5 := Lib.hid (bgo HD4.out hE'.below)
    clear hE hF hE' d1 d2 hcx hcA
    obtain ⟨b1, f1, he1, hz1, d1, d2⟩ := PairsAt.cell (SlAt.of_owns HOA5.out) hJl
    cases he1
    rw [Nat.zero_add, HRJ.out] at d1 d2
    obtain ⟨hcx, _, hsx5⟩ := cells_of_block HXB5.out
    obtain ⟨cur, hcur⟩ : ∃ cur, W5.heap[g]? = some (.cells cur 23 (0, 0)) := by
      obtain ⟨_, ⟨h1, _⟩ | ⟨g', cg', cur, hv, _, k2, _⟩⟩ := HOA5.out
      · cases h1
      · cases hv; exact ⟨cur, k2⟩
    have HCUR := Lib.hid hcur
    obtain ⟨_, hfg, hsg⟩ := cells_of_block hcur
    have hcur2 : cur[J * 2 + 1]? = some (iv rh) := by rw [← (cells_of_block hcur).1]; exact d2
    have hcur1 : cur[J * 2]? = some (iv rl) := by rw [← (cells_of_block hcur).1]; exact d1
    clear hcur
    go_wp2_with fail
    refine wp_region_ap 21 [] (fun _ => False) [g] (some 18) [(18, ⟨fun _ v => v = undef, fun xs _ Wx => ∃ p v, xs = [p, v] ∧ Wx.heap[g]? = some (.cells (cur.setIfInBounds (J * 2) v) 23 (0, 0))⟩)] (fun x a b hx => by cases hx) (by kernel_rfl) (by kernel_rfl) ?_
    simp only [List.take_succ_cons, List.take_zero, List.drop_succ_cons, List.drop_zero]
    refine R2.tree_detA (by kernel_rfl) (by rfl) _ (by rfl) (fun W hW' => by have hW := ApR.cells hW'; clear hW'; go_simp; (try simp (disch := omega) only [IntWalk.i64_in]); try rfl) ?_
    simp only [Act.put, List.setIfInBounds_toArray, List.set_cons_succ, List.set_cons_zero]
    refine R2.tree_detB ApR.sub (by rfl) _ (by rfl) (fun W _ => by go_simp; (try simp (disch := omega) only [IntWalk.i64_in]); try rfl) ?_
    simp only [Act.put, List.setIfInBounds_toArray, List.set_cons_succ, List.set_cons_zero]
    refine R2.tree_detA (by kernel_rfl) (by rfl) _ (by rfl) (fun W hW' => by have hW := ApR.cells hW'; clear hW'; go_simp; (try simp (disch := omega) only [IntWalk.i64_in]); try rfl) ?_
    simp only [Act.put, List.setIfInBounds_toArray, List.set_cons_succ, List.set_cons_zero]
    refine R2.tree_detA (by kernel_rfl) (by rfl) _ (by rfl) (fun W hW' => by have hW := ApR.cells hW'; clear hW'; go_simp; (try simp (disch := omega) only [IntWalk.i64_in]); try rfl) ?_
    simp only [Act.put, List.setIfInBounds_toArray, List.set_cons_succ, List.set_cons_zero]
    refine R2.tree_detA (by kernel_rfl) (by rfl) _ (by rfl) (fun W hW' => by have hW := ApR.cells hW'; clear hW'; go_simp; (try simp (disch := omega) only [IntWalk.i64_in]); try rfl) ?_
    simp only [Act.put, List.setIfInBounds_toArray, List.set_cons_succ, List.set_cons_zero]
    refine R2.tree_detA (by kernel_rfl) (by rfl) _ (by rfl) (fun W hW' => by have hW := ApR.cells hW'; clear hW'; go_simp; (try simp (disch := omega) only [IntWalk.i64_in]); try rfl) ?_
    simp only [Act.put, List.setIfInBounds_toArray, List.set_cons_succ, List.set_cons_zero]
    refine R2.tree_detA (by kernel_rfl) (by rfl) _ (by rfl) (fun W hW' => by have hW := ApR.cells hW'; clear hW'; go_simp; (try simp (disch := omega) only [IntWalk.i64_in]); try rfl) ?_
    simp only [Act.put, List.setIfInBounds_toArray, List.set_cons_succ, List.set_cons_zero]
    refine R2.tree_detA (by kernel_rfl) (by rfl) _ (by rfl) (fun W hW' => by have hW := ApR.cells hW'; clear hW'; go_simp; (try simp (disch := omega) only [IntWalk.i64_in]); try rfl) ?_
    simp only [Act.put, List.setIfInBounds_toArray, List.set_cons_succ, List.set_cons_zero]
    refine R2.tree_detA (by kernel_rfl) (by rfl) _ (by rfl) (fun W hW' => by have hW := ApR.cells hW'; clear hW'; go_simp; (try simp (disch := omega) only [IntWalk.i64_in]); try rfl) ?_
    simp only [Act.put, List.setIfInBounds_toArray, List.set_cons_succ, List.set_cons_zero]
    refine R2.tree_detA (by kernel_rfl) (by rfl) _ (by rfl) (fun W hW' => by have hW := ApR.cells hW'; clear hW'; go_simp; (try simp (disch := omega) only [IntWalk.i64_in]); try rfl) ?_
    simp only [Act.put, List.setIfInBounds_toArray, List.set_cons_succ, List.set_cons_zero]
    refine R2.tree_detA (by kernel_rfl) (by rfl) _ (by rfl) (fun W hW' => by have hW := ApR.cells hW'; clear hW'; go_simp; (try simp (disch := omega) only [IntWalk.i64_in]); try rfl) ?_
    simp only [Act.put, List.setIfInBounds_toArray, List.set_cons_succ, List.set_cons_zero]
    refine R2.tree_detA (by kernel_rfl) (by rfl) _ (by rfl) (fun W hW' => by have hW := ApR.cells hW'; clear hW'; go_simp; (try simp (disch := omega) only [IntWalk.i64_in]); try rfl) ?_
    simp only [Act.put, List.setIfInBounds_toArray, List.set_cons_succ, List.set_cons_zero]
    refine R2.tree_detA (by kernel_rfl) (by rfl) _ (by rfl) (fun W hW' => by have hW := ApR.cells hW'; clear hW'; go_simp; (try simp (disch := omega) only [IntWalk.i64_in]); try rfl) ?_
    simp only [Act.put, List.setIfInBounds_toArray, List.set_cons_succ, List.set_cons_zero]
    refine R2.tree_detB ApR.sub (by rfl) _ (by rfl) (fun W _ => by go_simp; (try simp (disch := omega) only [IntWalk.i64_in]); try rfl) ?_
    simp only [Act.put, List.setIfInBounds_toArray, List.set_cons_succ, List.set_cons_zero]
    refine R2.tree_detB ApR.sub (by rfl) _ (by rfl) (fun W _ => by go_simp; (try simp (disch := omega) only [IntWalk.i64_in]); try rfl) ?_
    simp only [Act.put, List.setIfInBounds_toArray, List.set_cons_succ, List.set_cons_zero]
    refine R2.tree_detB ApR.sub (by rfl) _ (by rfl) (fun W _ => by go_simp; (try simp (disch := omega) only [IntWalk.i64_in]); try rfl) ?_
    simp only [Act.put, List.setIfInBounds_toArray, List.set_cons_succ, List.set_cons_zero]
    refine R2.tree_detA (by kernel_rfl) (by rfl) _ (by rfl) (fun W hW' => by have hW := ApR.cells hW'; clear hW'; go_simp; (try simp (disch := omega) only [IntWalk.i64_in]); try rfl) ?_
    simp only [Act.put, List.setIfInBounds_toArray, List.set_cons_succ, List.set_cons_zero]
    refine R2.tree_detA (by kernel_rfl) (by rfl) _ (by rfl) (fun W hW' => by have hW := ApR.cells hW'; clear hW'; go_simp; (try simp (disch := omega) only [IntWalk.i64_in]); try rfl) ?_
    simp only [Act.put, List.setIfInBounds_toArray, List.set_cons_succ, List.set_cons_zero]
    refine R2.tree_some _ (by rfl) (by rfl) (by exact ⟨_, rfl⟩) (fun W hE hF => ?_) (fun v Wa Wb ho hE => ?_) (fun v hv => ?_)
    · have hE' : ApR [] (fun _ => False) [] W5 W := by unfold R2.relRely at hE; rwa [if_pos (by kernel_rfl)] at hE
      have hgW := (hE'.ext.block g hsg (by simp)).trans HCUR.out
      obtain ⟨hcw, hfw, hsw⟩ := cells_of_block hgW
      refine does_skip (W' := W.setCell ⟨g, J * 2, none⟩ (iv (max 0 (rl - low)))) (by go_simp; try rfl) ⟨rfl, ⟨_, _, rfl, set_block hgW _⟩, ?_⟩
      exact (show ApR [] (fun _ => False) [g] W (W.setCell ⟨g, J * 2, none⟩ (iv (max 0 (rl - low)))) from ⟨(ext_set W ⟨g, J * 2, none⟩ _).more (by simp), fun z hz => by cases hz⟩)
    · obtain ⟨p, v, hv, hc⟩ := ho
      have hE' : ApR [] (fun _ => False) [] Wa Wb := hE
      exact ⟨p, v, hv, (hE'.ext.block g (Array.getElem?_eq_some_iff.1 hc).1 (by simp)).trans hc⟩
    obtain rfl : v = _ := hv
    simp only [Act.put]
    refine R2.tree_detB ApR.sub (by rfl) _ (by rfl) (fun W _ => by go_simp; (try simp (disch := omega) only [IntWalk.i64_in]); try rfl) ?_
    simp only [Act.put, List.setIfInBounds_toArray, List.set_cons_succ, List.set_cons_zero]
    refine R2.tree_detB ApR.sub (by rfl) _ (by rfl) (fun W _ => by go_simp; (try simp (disch := omega) only [IntWalk.i64_in]); try rfl) ?_
    simp only [Act.put, List.setIfInBounds_toArray, List.set_cons_succ, List.set_cons_zero]
    intro W6 hE hF
    have hE' : ApR [] (fun _ => False) [g] W5 W6 := hE
    have hE6 : Ext [g] W5 W6 := hE'.1
    obtain ⟨p9, v9, hx9, hc9⟩ := hF _ (List.Mem.head _)
    obtain rfl : v9 = iv (max 0 (rl - low)) := by
      have h9 : [Value.pointer (some ⟨g, J * 2, none⟩), iv (max 0 (rl - low))] = [p9, v9] := hx9
      simp at h9
      exact h9.2.symm
    have HE6 := Lib.hid hE6
    have HC6 := Lib.hid hc9
    obtain ⟨hc6, hfg6, hsg6⟩ := cells_of_block hc9
    have hgx : W1.heap.size ≠ g := by omega
    have HXB6 := Lib.hid ((hE6.block _ hsx5 (by simpa using hgx)).trans HXB5.out)
    have HOB6 : Hid (W6.ownsRow W2.heap.size 79 3 (.slice ob h.readings.length cb) h.readings.length (tripleCells h.readings)) := Lib.hid (owns_ext' HOB5.out hE6 (by simpa using owns_ne13 HOB5.out HCUR.out (by decide)))
    have hd6 : W6.cell? ⟨g, J * 2 + 1, none⟩ = some (iv rh) := by
      rw [hc6, Array.getElem?_setIfInBounds_ne (by omega)]
      exact hcur2
    have HD6 := Lib.hid (below_of_ext HD5.out hE6 (by omega))
    clear hE hF hE' hE6 hx9 hc9 hc6 hcx d1 d2 hfg hsg hcur1
    obtain ⟨hcx, _, hsx6⟩ := cells_of_block HXB6.out
    have hgx2 : g ≠ W1.heap.size := by omega
    obtain ⟨hcA, _, _⟩ := cells_of_block (((bgo HB1.out HD6.out).block w.heap.size (by simp)).trans (heap_new0 w _))
    have hgw1 : g ≠ w.heap.size := by omega
    have hgw2 : w.heap.size ≠ g := by omega
    go_wp2_with fail
    refine gcallsW fun B0 hB0 => ?_
    have hbB : Below W1.heap.size W1 B0 := by rw [hB0]; exact bgoSet HD6.out (by show W1.heap.size ≤ g; omega) _
    have hX2 : B0.heap[W1.heap.size]? = some (.cells #[iv h.last, iv h.size, iv h.cool, iv h.die, iv h.burn, iv h.start.1, iv h.start.2, .slice (some ⟨g, 0, none⟩) h.wet.length ca, .slice ot h.turns.length ct, .slice ob h.readings.length cb] 28 (0, 0)) := by rw [hB0]; exact (Below.heap_setCell _ _ _ _ (by show W1.heap.size ≠ g; omega)).trans HXB6.out
    have HXW0 : Hid (PairsAt B0 (.slice (some ⟨g, 0, none⟩) h.wet.length ca) (h.wet.set J (max 0 (rl - low), min 20 (rh + high)))) := Lib.hid (by
      have h1 := pairs_set HOA5.out hJl (max 0 (rl - low)) (min 20 (rh + high))
      have h2 : B0.ownsRow W2.heap.size 23 2 (.slice (some ⟨g, 0, none⟩) (h.wet.set J (max 0 (rl - low), min 20 (rh + high))).length ca) (h.wet.set J (max 0 (rl - low), min 20 (rh + high))).length (pairCells (h.wet.set J (max 0 (rl - low), min 20 (rh + high)))) := owns_keep h1 (fun g' hg' => by
        have : g = g' := by simpa [Value.ownBlock] using hg'
        subst this
        rw [hB0]
        exact (set_block HC6.out _).trans (set_block (set_block HCUR.out _) _).symm)
      have h3 := SlAt.of_owns h2
      unfold PairsAt
      rw [List.length_set] at h3 ⊢
      exact h3)
    have HXR0 : Hid (TriplesAt B0 (.slice ob h.readings.length cb) h.readings) := Lib.hid (by
      rw [hB0]
      exact SlAt.of_owns (owns_ext' HOB6.out (ext_set W6 ⟨g, J * 2 + 1, none⟩ _) (by simpa using owns_ne13 HOB6.out HC6.out (by decide))))
    clear hB0
    have HBB := Lib.hid (show Below w.heap.size w B0 from bgo (bgoAlloc (Below.refl _ _) _) (show Below (w.alloc (.cells #[.int .i64 h.last, .int .i64 h.size, .int .i64 h.cool, .int .i64 h.die, .int .i64 h.burn, .int .i64 h.start.1, .int .i64 h.start.2, .slice ow h.wet.length cw, .slice ot h.turns.length ct, .slice ox h.readings.length cx] 28)).heap.size _ B0 from bgo HB1.out hbB))
    have HX1 := Lib.hid (show B0.heap[w.heap.size]? = some (.cells #[.int .i64 h.last, .int .i64 h.size, .int .i64 h.cool, .int .i64 h.die, .int .i64 h.burn, .int .i64 h.start.1, .int .i64 h.start.2, .slice ow h.wet.length cw, .slice ot h.turns.length ct, .slice ox h.readings.length cx] 28 (0, 0)) from (hbB.block _ hwx).trans ((HB1.out.block w.heap.size (by simp)).trans (heap_new0 w _)))
    have HX2 := Lib.hid (show B0.heap[W1.heap.size]? = some (.cells #[iv h.last, iv h.size, iv h.cool, iv h.die, iv h.burn, iv h.start.1, iv h.start.2, .slice (some ⟨g, 0, none⟩) h.wet.length ca, .slice ot h.turns.length ct, .slice ob h.readings.length cb] 28 (0, 0)) from hX2)
    have HW0 := Lib.hid (HW.out.below HBB.out (Nat.le_refl _))
    have HT0 := Lib.hid (HT.out.below HBB.out (Nat.le_refl _))
    have HX0 := Lib.hid (HX.out.below HBB.out (Nat.le_refl _))
    (try clear HB0)
    (try clear HB1)
    (try clear HB2)
    (try clear HB3)
    (try clear HD1)
    (try clear HD2)
    (try clear HD3)
    (try clear hbB)
    (try clear hX2)
    (try clear hcx)
    (try clear hcr)
    (try clear hsr)
    (try clear hcA)
    (try clear hwx1)
    (try clear hwx2)
    (try clear hsx3)
    (try clear HXB2)
    (try clear HXB3)
    (try clear HOA)
    (try clear HOB)
    (try clear HXB4)
    (try clear HOA4)
    (try clear HOB4)
    (try clear HD4)
    (try clear HE5)
    (try clear HXB5)
    (try clear HOA5)
    (try clear HOB5)
    (try clear HD5)
    (try clear HE6)
    (try clear HC6)
    (try clear HXB6)
    (try clear HOB6)
    (try clear HD6)
    (try clear hsx4)
    (try clear hsx5)
    (try clear hsx6)
    (try clear hd6)
    (try clear hfg6)
    (try clear hsg6)
    (try clear hgx)
    (try clear hgx2)
    (try clear hgw1)
    (try clear hgw2)
    (try clear hwx)
    (try clear hsx)
    have HB0 := Lib.hid (Below.refl B0.heap.size B0)
    cases hr2 : readyB ({ h with wet := h.wet.set J (max 0 (rl - low), min 20 (rh + high)) })
    case false =>
      have HR2 := Lib.hid hr2
      clear hr2
      refine (ready_any ({ h with wet := h.wet.set J (max 0 (rl - low), min 20 (rh + high)) }) _ _ _ _ (HXW0.out.below HB0.out (Nat.le_refl _)) (HT0.out.below HB0.out (Nat.le_refl _)) (HXR0.out.below HB0.out (Nat.le_refl _))).mono ?_
      rw [HR2.out]
      rintro e W1 ⟨rfl, hb⟩
      (try clear hc1 hs1 hc2 hs2)
      have HD1 := Lib.hid hb
      have HB1 := Lib.hid (bgo HB0.out hb)
      obtain ⟨hc1, _, hs1⟩ := cells_of_block ((HB1.out.block _ (cells_of_block HX1.out).2.2).trans HX1.out)
      obtain ⟨hc2, _, hs2⟩ := cells_of_block ((HB1.out.block _ (cells_of_block HX2.out).2.2).trans HX2.out)
      clear hb
      go_wp2_with fail
      refine (awake_any _).mono ?_
      rintro e W2 ⟨rfl, hb⟩
      (try clear hc1 hs1 hc2 hs2)
      have HD2 := Lib.hid hb
      have HB2 := Lib.hid (bgo HB1.out hb)
      obtain ⟨hc1, _, hs1⟩ := cells_of_block ((HB2.out.block _ (cells_of_block HX1.out).2.2).trans HX1.out)
      obtain ⟨hc2, _, hs2⟩ := cells_of_block ((HB2.out.block _ (cells_of_block HX2.out).2.2).trans HX2.out)
      clear hb
      go_wp2_with fail
      go_returns
      exact ⟨by simp, bgo HBB.out HB2.out⟩
    have HR2 := Lib.hid hr2
    obtain ⟨hS2, hf2, _, _⟩ := ready_sound hr2
    have HXL : Hid (({ h with wet := h.wet.set J (max 0 (rl - low), min 20 (rh + high)) }).wet.length ≤ 10 ∧ ({ h with wet := h.wet.set J (max 0 (rl - low), min 20 (rh + high)) }).readings.length ≤ 5) := Lib.hid ⟨by have h1 : (({ h with wet := h.wet.set J (max 0 (rl - low), min 20 (rh + high)) }).wet.length : Int) = ({ h with wet := h.wet.set J (max 0 (rl - low), min 20 (rh + high)) }).last + 1 := hS2.wetLen; have h2 : ({ h with wet := h.wet.set J (max 0 (rl - low), min 20 (rh + high)) }).last ≤ 9 := hS2.last9; omega, hS2.rdgs⟩
    have hwid : Wider h ({ h with wet := h.wet.set J (max 0 (rl - low), min 20 (rh + high)) }) := (wider_wet HS.out hJl HRJ.out hlow2.1 hhigh2.1 hS2)
    obtain ⟨hm1, hm3⟩ := wider_plain hwid
    obtain ⟨L1, hL1⟩ : ∃ L, leaveL h = L := ⟨_, rfl⟩
    obtain ⟨L2, hL2⟩ : ∃ L, leaveL ({ h with wet := h.wet.set J (max 0 (rl - low), min 20 (rh + high)) }) = L := ⟨_, rfl⟩
    replace hm1 : L2.length ≤ L1.length := by rw [← hL1, ← hL2]; exact hm1
    replace hm3 : L1 = [] → _ := fun e => hm3 (hL1.trans e)
    have HL := Lib.hid (And.intro hL1 hL2)
    have HF := Lib.hid (And.intro HF0.out hf2)
    have hm1I : ¬ (L1.length : Int) < L2.length := by omega
    have hm1d : decide (L1.length < L2.length) = false := decide_eq_false (by omega)
    by_cases h0 : 0 < L1.length
    case pos =>
      have h0I : (0 : Int) < L1.length := by omega
      clear hr2 hS2 hf2 hm3 hL1 hL2 hwid
      refine (ready_any ({ h with wet := h.wet.set J (max 0 (rl - low), min 20 (rh + high)) }) _ _ _ _ (HXW0.out.below HB0.out (Nat.le_refl _)) (HT0.out.below HB0.out (Nat.le_refl _)) (HXR0.out.below HB0.out (Nat.le_refl _))).mono ?_
      rw [HR2.out]
      rintro e W1 ⟨rfl, hb⟩
      (try clear hc1 hs1 hc2 hs2)
      have HD1 := Lib.hid hb
      have HB1 := Lib.hid (bgo HB0.out hb)
      obtain ⟨hc1, _, hs1⟩ := cells_of_block ((HB1.out.block _ (cells_of_block HX1.out).2.2).trans HX1.out)
      obtain ⟨hc2, _, hs2⟩ := cells_of_block ((HB1.out.block _ (cells_of_block HX2.out).2.2).trans HX2.out)
      clear hb
      go_wp2_with fail
      refine (Heap_any (h) _ _ _ _ (HW0.out.below HB1.out (Nat.le_refl _)) (HT0.out.below HB1.out (Nat.le_refl _)) (HX0.out.below HB1.out (Nat.le_refl _)) (by show h.wet.length ≤ 1000; omega) (by show h.turns.length ≤ 1000; omega) (by show h.readings.length ≤ 1000; omega)).mono ?_
      rintro e W2 ⟨a2, b2, c2, rfl, h1, h2, h3, hb⟩
      (try clear hc1 hs1 hc2 hs2)
      have HD2 := Lib.hid hb
      have HB2 := Lib.hid (bgo HB1.out hb)
      obtain ⟨hc1, _, hs1⟩ := cells_of_block ((HB2.out.block _ (cells_of_block HX1.out).2.2).trans HX1.out)
      obtain ⟨hc2, _, hs2⟩ := cells_of_block ((HB2.out.block _ (cells_of_block HX2.out).2.2).trans HX2.out)
      clear hb
      have HH2 := Lib.hid (And.intro h1 (And.intro h2 h3))
      clear h1 h2 h3
      go_wp2_with fail
      refine (Leave_any (h) _ _ _ _ HH2.out.1 HH2.out.2.1 HH2.out.2.2).mono ?_
      rintro e W3 ⟨v, rfl, hv, hb⟩
      rw [HF.out.1]
      rw [HL.out.1] at hv
      obtain ⟨o3, k3, rfl⟩ := hv.open
      clear hv
      (try clear hc1 hs1 hc2 hs2)
      have HD3 := Lib.hid hb
      have HB3 := Lib.hid (bgo HB2.out hb)
      obtain ⟨hc1, _, hs1⟩ := cells_of_block ((HB3.out.block _ (cells_of_block HX1.out).2.2).trans HX1.out)
      obtain ⟨hc2, _, hs2⟩ := cells_of_block ((HB3.out.block _ (cells_of_block HX2.out).2.2).trans HX2.out)
      clear hb
      go_wp2_with fail
      refine (Heap_any ({ h with wet := h.wet.set J (max 0 (rl - low), min 20 (rh + high)) }) _ _ _ _ (HXW0.out.below HB3.out (Nat.le_refl _)) (HT0.out.below HB3.out (Nat.le_refl _)) (HXR0.out.below HB3.out (Nat.le_refl _)) (Nat.le_trans HXL.out.1 (by omega)) (by show h.turns.length ≤ 1000; omega) (Nat.le_trans HXL.out.2 (by omega))).mono ?_
      rintro e W4 ⟨a4, b4, c4, rfl, h1, h2, h3, hb⟩
      (try clear hc1 hs1 hc2 hs2)
      have HD4 := Lib.hid hb
      have HB4 := Lib.hid (bgo HB3.out hb)
      obtain ⟨hc1, _, hs1⟩ := cells_of_block ((HB4.out.block _ (cells_of_block HX1.out).2.2).trans HX1.out)
      obtain ⟨hc2, _, hs2⟩ := cells_of_block ((HB4.out.block _ (cells_of_block HX2.out).2.2).trans HX2.out)
      clear hb
      have HH4 := Lib.hid (And.intro h1 (And.intro h2 h3))
      clear h1 h2 h3
      go_wp2_with fail
      refine (Leave_any ({ h with wet := h.wet.set J (max 0 (rl - low), min 20 (rh + high)) }) _ _ _ _ HH4.out.1 HH4.out.2.1 HH4.out.2.2).mono ?_
      rintro e W5 ⟨v, rfl, hv, hb⟩
      rw [HF.out.2]
      rw [HL.out.2] at hv
      obtain ⟨o5, k5, rfl⟩ := hv.open
      clear hv
      (try clear hc1 hs1 hc2 hs2)
      have HD5 := Lib.hid hb
      have HB5 := Lib.hid (bgo HB4.out hb)
      obtain ⟨hc1, _, hs1⟩ := cells_of_block ((HB5.out.block _ (cells_of_block HX1.out).2.2).trans HX1.out)
      obtain ⟨hc2, _, hs2⟩ := cells_of_block ((HB5.out.block _ (cells_of_block HX2.out).2.2).trans HX2.out)
      clear hb
      go_wp2_with fail
      refine (awake_any _).mono ?_
      rintro e W6 ⟨rfl, hb⟩
      (try clear hc1 hs1 hc2 hs2)
      have HD6 := Lib.hid hb
      have HB6 := Lib.hid (bgo HB5.out hb)
      obtain ⟨hc1, _, hs1⟩ := cells_of_block ((HB6.out.block _ (cells_of_block HX1.out).2.2).trans HX1.out)
      obtain ⟨hc2, _, hs2⟩ := cells_of_block ((HB6.out.block _ (cells_of_block HX2.out).2.2).trans HX2.out)
      clear hb
      go_wp2_with fail
      go_returns
      exact ⟨by simp, bgo HBB.out HB6.out⟩
    obtain rfl : L2 = [] := List.eq_nil_of_length_eq_zero (by omega)
    obtain rfl : L1 = [] := List.eq_nil_of_length_eq_zero (by omega)
    clear hm1 hm1I hm1d h0
    obtain ⟨hn, hsub⟩ := hm3 rfl
    obtain ⟨p1, p2, p3, _, p5, p6⟩ := hsub.plain hn (turns := turnedL h bs) HTU.out
    obtain ⟨B1, hB1⟩ : ∃ B, boundsOut h (turnedL h bs) = B := ⟨_, rfl⟩
    obtain ⟨B2, hB2⟩ : ∃ B, boundsOut ({ h with wet := h.wet.set J (max 0 (rl - low), min 20 (rh + high)) }) (turnedL h bs) = B := ⟨_, rfl⟩
    obtain ⟨n1, hn1⟩ : ∃ n, neededV h = n := ⟨_, rfl⟩
    obtain ⟨n2, hn2⟩ : ∃ n, neededV ({ h with wet := h.wet.set J (max 0 (rl - low), min 20 (rh + high)) }) = n := ⟨_, rfl⟩
    replace p3 : narrowerB B1 B2 = true := by rw [← hB1, ← hB2]; exact p3
    replace p5 : 0 ≤ n1 := by rw [← hn1]; exact p5
    replace p6 : n1 ≤ n2 := by rw [← hn1, ← hn2]; exact p6
    have HP := Lib.hid (And.intro p1 (And.intro p2 (And.intro p3 (And.intro hB1 (And.intro hB2 (And.intro hn1 hn2))))))
    have hn0 : ¬ n1 < 0 := by omega
    clear hr2 hS2 hf2 hL1 hL2 hm3 hn hsub p1 p2 p3 hB1 hB2 hn1 hn2 hwid
    refine (ready_any ({ h with wet := h.wet.set J (max 0 (rl - low), min 20 (rh + high)) }) _ _ _ _ (HXW0.out.below HB0.out (Nat.le_refl _)) (HT0.out.below HB0.out (Nat.le_refl _)) (HXR0.out.below HB0.out (Nat.le_refl _))).mono ?_
    rw [HR2.out]
    rintro e W1 ⟨rfl, hb⟩
    (try clear hc1 hs1 hc2 hs2)
    have HD1 := Lib.hid hb
    have HB1 := Lib.hid (bgo HB0.out hb)
    obtain ⟨hc1, _, hs1⟩ := cells_of_block ((HB1.out.block _ (cells_of_block HX1.out).2.2).trans HX1.out)
    obtain ⟨hc2, _, hs2⟩ := cells_of_block ((HB1.out.block _ (cells_of_block HX2.out).2.2).trans HX2.out)
    clear hb
    go_wp2_with fail
    refine (Heap_any (h) _ _ _ _ (HW0.out.below HB1.out (Nat.le_refl _)) (HT0.out.below HB1.out (Nat.le_refl _)) (HX0.out.below HB1.out (Nat.le_refl _)) (by show h.wet.length ≤ 1000; omega) (by show h.turns.length ≤ 1000; omega) (by show h.readings.length ≤ 1000; omega)).mono ?_
    rintro e W2 ⟨a2, b2, c2, rfl, h1, h2, h3, hb⟩
    (try clear hc1 hs1 hc2 hs2)
    have HD2 := Lib.hid hb
    have HB2 := Lib.hid (bgo HB1.out hb)
    obtain ⟨hc1, _, hs1⟩ := cells_of_block ((HB2.out.block _ (cells_of_block HX1.out).2.2).trans HX1.out)
    obtain ⟨hc2, _, hs2⟩ := cells_of_block ((HB2.out.block _ (cells_of_block HX2.out).2.2).trans HX2.out)
    clear hb
    have HH2 := Lib.hid (And.intro h1 (And.intro h2 h3))
    clear h1 h2 h3
    go_wp2_with fail
    refine (Leave_any (h) _ _ _ _ HH2.out.1 HH2.out.2.1 HH2.out.2.2).mono ?_
    rintro e W3 ⟨v, rfl, hv, hb⟩
    rw [HF.out.1]
    rw [HL.out.1] at hv
    obtain ⟨o3, k3, rfl⟩ := hv.open
    clear hv
    (try clear hc1 hs1 hc2 hs2)
    have HD3 := Lib.hid hb
    have HB3 := Lib.hid (bgo HB2.out hb)
    obtain ⟨hc1, _, hs1⟩ := cells_of_block ((HB3.out.block _ (cells_of_block HX1.out).2.2).trans HX1.out)
    obtain ⟨hc2, _, hs2⟩ := cells_of_block ((HB3.out.block _ (cells_of_block HX2.out).2.2).trans HX2.out)
    clear hb
    go_wp2_with fail
    refine (Heap_any ({ h with wet := h.wet.set J (max 0 (rl - low), min 20 (rh + high)) }) _ _ _ _ (HXW0.out.below HB3.out (Nat.le_refl _)) (HT0.out.below HB3.out (Nat.le_refl _)) (HXR0.out.below HB3.out (Nat.le_refl _)) (Nat.le_trans HXL.out.1 (by omega)) (by show h.turns.length ≤ 1000; omega) (Nat.le_trans HXL.out.2 (by omega))).mono ?_
    rintro e W4 ⟨a4, b4, c4, rfl, h1, h2, h3, hb⟩
    (try clear hc1 hs1 hc2 hs2)
    have HD4 := Lib.hid hb
    have HB4 := Lib.hid (bgo HB3.out hb)
    obtain ⟨hc1, _, hs1⟩ := cells_of_block ((HB4.out.block _ (cells_of_block HX1.out).2.2).trans HX1.out)
    obtain ⟨hc2, _, hs2⟩ := cells_of_block ((HB4.out.block _ (cells_of_block HX2.out).2.2).trans HX2.out)
    clear hb
    have HH4 := Lib.hid (And.intro h1 (And.intro h2 h3))
    clear h1 h2 h3
    go_wp2_with fail
    refine (Leave_any ({ h with wet := h.wet.set J (max 0 (rl - low), min 20 (rh + high)) }) _ _ _ _ HH4.out.1 HH4.out.2.1 HH4.out.2.2).mono ?_
    rintro e W5 ⟨v, rfl, hv, hb⟩
    rw [HF.out.2]
    rw [HL.out.2] at hv
    obtain ⟨o5, k5, rfl⟩ := hv.open
    clear hv
    (try clear hc1 hs1 hc2 hs2)
    have HD5 := Lib.hid hb
    have HB5 := Lib.hid (bgo HB4.out hb)
    obtain ⟨hc1, _, hs1⟩ := cells_of_block ((HB5.out.block _ (cells_of_block HX1.out).2.2).trans HX1.out)
    obtain ⟨hc2, _, hs2⟩ := cells_of_block ((HB5.out.block _ (cells_of_block HX2.out).2.2).trans HX2.out)
    clear hb
    go_wp2_with fail
    refine (turned_any h _ _ _ bs _ hl0 hl9 hbs).mono ?_
    rintro e W6 ⟨v, rfl, hv, hb⟩
    obtain ⟨o6, k6, rfl⟩ := hv.open
    have HTU6 := Lib.hid hv
    clear hv
    (try clear hc1 hs1 hc2 hs2)
    have HD6 := Lib.hid hb
    have HB6 := Lib.hid (bgo HB5.out hb)
    obtain ⟨hc1, _, hs1⟩ := cells_of_block ((HB6.out.block _ (cells_of_block HX1.out).2.2).trans HX1.out)
    obtain ⟨hc2, _, hs2⟩ := cells_of_block ((HB6.out.block _ (cells_of_block HX2.out).2.2).trans HX2.out)
    clear hb
    go_wp2_with fail
    refine (Heap_any (h) _ _ _ _ (HW0.out.below HB6.out (Nat.le_refl _)) (HT0.out.below HB6.out (Nat.le_refl _)) (HX0.out.below HB6.out (Nat.le_refl _)) (by show h.wet.length ≤ 1000; omega) (by show h.turns.length ≤ 1000; omega) (by show h.readings.length ≤ 1000; omega)).mono ?_
    rintro e W7 ⟨a7, b7, c7, rfl, h1, h2, h3, hb⟩
    (try clear hc1 hs1 hc2 hs2)
    have HD7 := Lib.hid hb
    have HB7 := Lib.hid (bgo HB6.out hb)
    obtain ⟨hc1, _, hs1⟩ := cells_of_block ((HB7.out.block _ (cells_of_block HX1.out).2.2).trans HX1.out)
    obtain ⟨hc2, _, hs2⟩ := cells_of_block ((HB7.out.block _ (cells_of_block HX2.out).2.2).trans HX2.out)
    clear hb
    have HH7 := Lib.hid (And.intro h1 (And.intro h2 h3))
    clear h1 h2 h3
    go_wp2_with fail
    have HTU7 := Lib.hid (SlAt.below HTU6.out HD7.out (Nat.le_refl _))
    refine (list_any (turnedL h bs) _ _ (HTU7.out) (by omega)).mono ?_
    rintro e W8 ⟨v, rfl, ho, hb⟩
    obtain ⟨o8, k8, rfl⟩ := owns_slice ho
    have HV8 := Lib.hid (SlAt.of_owns ho)
    clear ho
    (try clear hc1 hs1 hc2 hs2)
    have HD8 := Lib.hid hb
    have HB8 := Lib.hid (bgo HB7.out hb)
    obtain ⟨hc1, _, hs1⟩ := cells_of_block ((HB8.out.block _ (cells_of_block HX1.out).2.2).trans HX1.out)
    obtain ⟨hc2, _, hs2⟩ := cells_of_block ((HB8.out.block _ (cells_of_block HX2.out).2.2).trans HX2.out)
    clear hb
    go_wp2_with fail
    have HTU8 := Lib.hid (SlAt.below HTU7.out HD8.out (Nat.le_refl _))
    refine (Bounds_any (h) _ _ _ _ (turnedL h bs) _ (HH7.out.1.below HD8.out (Nat.le_refl _)) (HH7.out.2.1.below HD8.out (Nat.le_refl _)) (HH7.out.2.2.below HD8.out (Nat.le_refl _)) HV8.out).mono ?_
    rintro e W9 ⟨v, rfl, hv, hb⟩
    rw [HP.out.1]
    rw [HP.out.2.2.2.1] at hv
    obtain ⟨o9, k9, rfl⟩ := SlAt.open hv
    have HV9 := Lib.hid hv
    clear hv
    (try clear hc1 hs1 hc2 hs2)
    have HD9 := Lib.hid hb
    have HB9 := Lib.hid (bgo HB8.out hb)
    obtain ⟨hc1, _, hs1⟩ := cells_of_block ((HB9.out.block _ (cells_of_block HX1.out).2.2).trans HX1.out)
    obtain ⟨hc2, _, hs2⟩ := cells_of_block ((HB9.out.block _ (cells_of_block HX2.out).2.2).trans HX2.out)
    clear hb
    go_wp2_with fail
    have HTU9 := Lib.hid (SlAt.below HTU8.out HD9.out (Nat.le_refl _))
    refine (Heap_any ({ h with wet := h.wet.set J (max 0 (rl - low), min 20 (rh + high)) }) _ _ _ _ (HXW0.out.below HB9.out (Nat.le_refl _)) (HT0.out.below HB9.out (Nat.le_refl _)) (HXR0.out.below HB9.out (Nat.le_refl _)) (Nat.le_trans HXL.out.1 (by omega)) (by show h.turns.length ≤ 1000; omega) (Nat.le_trans HXL.out.2 (by omega))).mono ?_
    rintro e W10 ⟨a10, b10, c10, rfl, h1, h2, h3, hb⟩
    (try clear hc1 hs1 hc2 hs2)
    have HD10 := Lib.hid hb
    have HB10 := Lib.hid (bgo HB9.out hb)
    obtain ⟨hc1, _, hs1⟩ := cells_of_block ((HB10.out.block _ (cells_of_block HX1.out).2.2).trans HX1.out)
    obtain ⟨hc2, _, hs2⟩ := cells_of_block ((HB10.out.block _ (cells_of_block HX2.out).2.2).trans HX2.out)
    clear hb
    have HH10 := Lib.hid (And.intro h1 (And.intro h2 h3))
    clear h1 h2 h3
    go_wp2_with fail
    have HTU10 := Lib.hid (SlAt.below HTU9.out HD10.out (Nat.le_refl _))
    refine (list_any (turnedL h bs) _ _ (HTU10.out) (by omega)).mono ?_
    rintro e W11 ⟨v, rfl, ho, hb⟩
    obtain ⟨o11, k11, rfl⟩ := owns_slice ho
    have HV11 := Lib.hid (SlAt.of_owns ho)
    clear ho
    (try clear hc1 hs1 hc2 hs2)
    have HD11 := Lib.hid hb
    have HB11 := Lib.hid (bgo HB10.out hb)
    obtain ⟨hc1, _, hs1⟩ := cells_of_block ((HB11.out.block _ (cells_of_block HX1.out).2.2).trans HX1.out)
    obtain ⟨hc2, _, hs2⟩ := cells_of_block ((HB11.out.block _ (cells_of_block HX2.out).2.2).trans HX2.out)
    clear hb
    go_wp2_with fail
    refine (Bounds_any ({ h with wet := h.wet.set J (max 0 (rl - low), min 20 (rh + high)) }) _ _ _ _ (turnedL h bs) _ (HH10.out.1.below HD11.out (Nat.le_refl _)) (HH10.out.2.1.below HD11.out (Nat.le_refl _)) (HH10.out.2.2.below HD11.out (Nat.le_refl _)) HV11.out).mono ?_
    rintro e W12 ⟨v, rfl, hv, hb⟩
    rw [HP.out.2.1]
    rw [HP.out.2.2.2.2.1] at hv
    obtain ⟨o12, k12, rfl⟩ := SlAt.open hv
    have HV12 := Lib.hid hv
    clear hv
    (try clear hc1 hs1 hc2 hs2)
    have HD12 := Lib.hid hb
    have HB12 := Lib.hid (bgo HB11.out hb)
    obtain ⟨hc1, _, hs1⟩ := cells_of_block ((HB12.out.block _ (cells_of_block HX1.out).2.2).trans HX1.out)
    obtain ⟨hc2, _, hs2⟩ := cells_of_block ((HB12.out.block _ (cells_of_block HX2.out).2.2).trans HX2.out)
    clear hb
    go_wp2_with fail
    refine wp_region_rg 6 [] none [(1, Spec.val (iv n1)), (3, Spec.val (iv n2))] (by kernel_rfl) (by kernel_rfl) ?_
    simp only [List.take_succ_cons, List.take_zero, List.drop_succ_cons, List.drop_zero]
    repeat (first | (refine tree_det (by rfl) _ (by rfl) (fun W hW => by go_simp; try rfl) ?_; simp only [Act.put, List.setIfInBounds_toArray, List.set_cons_succ, List.set_cons_zero]) | (refine tree_skip (by rfl) (by rfl) ?_; simp only [Act.put, List.setIfInBounds_toArray, List.set_cons_succ, List.set_cons_zero]))
    refine tree_val _ (by rfl) (by rfl) 44 _ (fun W hW => by go_simp; try rfl) (fun W hE hF => by exact by have := needed_any h _ _ _ W (SlAt.below (HW0.out.below HB12.out (Nat.le_refl _)) (Ext.below (show Ext [] W12 W from hE)) (Nat.le_refl _)) (SlAt.below (HT0.out.below HB12.out (Nat.le_refl _)) (Ext.below (show Ext [] W12 W from hE)) (Nat.le_refl _)) (SlAt.below (HX0.out.below HB12.out (Nat.le_refl _)) (Ext.below (show Ext [] W12 W from hE)) (Nat.le_refl _)) (by omega) (by omega) (by omega); rw [HP.out.2.2.2.2.2.1] at this; exact this) ?_
    simp only [Act.put, List.setIfInBounds_toArray, List.set_cons_succ, List.set_cons_zero]
    repeat (first | (refine tree_det (by rfl) _ (by rfl) (fun W hW => by go_simp; try rfl) ?_; simp only [Act.put, List.setIfInBounds_toArray, List.set_cons_succ, List.set_cons_zero]) | (refine tree_skip (by rfl) (by rfl) ?_; simp only [Act.put, List.setIfInBounds_toArray, List.set_cons_succ, List.set_cons_zero]))
    refine tree_val _ (by rfl) (by rfl) 44 _ (fun W hW => by go_simp; try rfl) (fun W hE hF => by exact by have := needed_any ({ h with wet := h.wet.set J (max 0 (rl - low), min 20 (rh + high)) }) _ _ _ W (SlAt.below (HXW0.out.below HB12.out (Nat.le_refl _)) (Ext.below (show Ext [] W12 W from hE)) (Nat.le_refl _)) (SlAt.below (HT0.out.below HB12.out (Nat.le_refl _)) (Ext.below (show Ext [] W12 W from hE)) (Nat.le_refl _)) (SlAt.below (HXR0.out.below HB12.out (Nat.le_refl _)) (Ext.below (show Ext [] W12 W from hE)) (Nat.le_refl _)) (Nat.le_trans HXL.out.1 (by omega)) (by show h.turns.length ≤ 1000; omega) (Nat.le_trans HXL.out.2 (by omega)); rw [HP.out.2.2.2.2.2.2] at this; exact this) ?_
    simp only [Act.put, List.setIfInBounds_toArray, List.set_cons_succ, List.set_cons_zero]
    repeat (first | (refine tree_det (by rfl) _ (by rfl) (fun W hW => by go_simp; try rfl) ?_; simp only [Act.put, List.setIfInBounds_toArray, List.set_cons_succ, List.set_cons_zero]) | (refine tree_skip (by rfl) (by rfl) ?_; simp only [Act.put, List.setIfInBounds_toArray, List.set_cons_succ, List.set_cons_zero]))
    intro W13 hE hF
    have hb := Ext.below (show Ext [] W12 W13 from hE)
    (try clear hc1 hs1 hc2 hs2)
    have HD13 := Lib.hid hb
    have HB13 := Lib.hid (bgo HB12.out hb)
    obtain ⟨hc1, _, hs1⟩ := cells_of_block ((HB13.out.block _ (cells_of_block HX1.out).2.2).trans HX1.out)
    obtain ⟨hc2, _, hs2⟩ := cells_of_block ((HB13.out.block _ (cells_of_block HX2.out).2.2).trans HX2.out)
    clear hb
    clear hE hF
    go_wp2_with fail
    have HN := narrower_any B1 B2 (.slice o9 B1.length k9) (.slice o12 B2.length k12) W13
      (SlAt.below (SlAt.below (SlAt.below (SlAt.below HV9.out HD10.out (Nat.le_refl _)) HD11.out (Nat.le_refl _)) HD12.out (Nat.le_refl _)) HD13.out (Nat.le_refl _))
      (SlAt.below HV12.out HD13.out (Nat.le_refl _))
    rw [HP.out.2.2.1] at HN
    refine HN.mono ?_
    clear HN
    rintro e W14 ⟨rfl, hb⟩
    (try clear hc1 hs1 hc2 hs2)
    have HD14 := Lib.hid hb
    have HB14 := Lib.hid (bgo HB13.out hb)
    obtain ⟨hc1, _, hs1⟩ := cells_of_block ((HB14.out.block _ (cells_of_block HX1.out).2.2).trans HX1.out)
    obtain ⟨hc2, _, hs2⟩ := cells_of_block ((HB14.out.block _ (cells_of_block HX2.out).2.2).trans HX2.out)
    clear hb
    go_wp2_with fail
    refine (awake_any _).mono ?_
    rintro e W15 ⟨rfl, hb⟩
    (try clear hc1 hs1 hc2 hs2)
    have HD15 := Lib.hid hb
    have HB15 := Lib.hid (bgo HB14.out hb)
    obtain ⟨hc1, _, hs1⟩ := cells_of_block ((HB15.out.block _ (cells_of_block HX1.out).2.2).trans HX1.out)
    obtain ⟨hc2, _, hs2⟩ := cells_of_block ((HB15.out.block _ (cells_of_block HX2.out).2.2).trans HX2.out)
    clear hb
    go_wp2_with fail
    go_returns
    exact ⟨by simp, bgo HBB.out HB15.out⟩
  · by_cases hr0 : h.readings.length = 0
    · have hr1 : ¬ (0 : Int) < h.readings.length := by omega
      clear hr0
      go_wp2_with fail
      refine gcallsW fun B0 hB0 => ?_
      have hbB : Below W1.heap.size W1 B0 := by rw [hB0]; exact bgoSet HD3.out (Nat.le_refl _) _
      have hX2 : B0.heap[W1.heap.size]? = some (.cells #[iv h.last, iv h.size, iv h.cool, iv h.die, iv h.burn, iv h.start.1, iv h.start.2, .slice oa h.wet.length ca, .slice ot h.turns.length ct, .slice ob h.readings.length cb] 28 (0, 0)) := by rw [hB0]; exact set_block HXB3.out _
      have HXW0 : Hid (PairsAt B0 (.slice oa h.wet.length ca) h.wet) := Lib.hid (by
        rw [hB0]
        exact SlAt.of_owns (owns_ext (Ms := [W1.heap.size]) HOA.out (ext_set _ ⟨W1.heap.size, 9, none⟩ _) (by simpa using hsx)))
      have HXR0 : Hid (TriplesAt B0 (.slice ob h.readings.length cb) h.readings) := Lib.hid (by
        rw [hB0]
        exact SlAt.of_owns (owns_ext (Ms := [W1.heap.size]) HOB.out (ext_set _ ⟨W1.heap.size, 9, none⟩ _) (by simpa using hsx)))
      clear hB0
      have HBB := Lib.hid (show Below w.heap.size w B0 from bgo (bgoAlloc (Below.refl _ _) _) (show Below (w.alloc (.cells #[.int .i64 h.last, .int .i64 h.size, .int .i64 h.cool, .int .i64 h.die, .int .i64 h.burn, .int .i64 h.start.1, .int .i64 h.start.2, .slice ow h.wet.length cw, .slice ot h.turns.length ct, .slice ox h.readings.length cx] 28)).heap.size _ B0 from bgo HB1.out hbB))
      have HX1 := Lib.hid (show B0.heap[w.heap.size]? = some (.cells #[.int .i64 h.last, .int .i64 h.size, .int .i64 h.cool, .int .i64 h.die, .int .i64 h.burn, .int .i64 h.start.1, .int .i64 h.start.2, .slice ow h.wet.length cw, .slice ot h.turns.length ct, .slice ox h.readings.length cx] 28 (0, 0)) from (hbB.block _ hwx).trans ((HB1.out.block w.heap.size (by simp)).trans (heap_new0 w _)))
      have HX2 := Lib.hid (show B0.heap[W1.heap.size]? = some (.cells #[iv h.last, iv h.size, iv h.cool, iv h.die, iv h.burn, iv h.start.1, iv h.start.2, .slice oa h.wet.length ca, .slice ot h.turns.length ct, .slice ob h.readings.length cb] 28 (0, 0)) from hX2)
      have HW0 := Lib.hid (HW.out.below HBB.out (Nat.le_refl _))
      have HT0 := Lib.hid (HT.out.below HBB.out (Nat.le_refl _))
      have HX0 := Lib.hid (HX.out.below HBB.out (Nat.le_refl _))
      (try clear HB0)
      (try clear HB1)
      (try clear HB2)
      (try clear HB3)
      (try clear HD1)
      (try clear HD2)
      (try clear HD3)
      (try clear hbB)
      (try clear hX2)
      (try clear hcx)
      (try clear hcr)
      (try clear hsr)
      (try clear hcA)
      (try clear hwx1)
      (try clear hwx2)
      (try clear hsx3)
      (try clear HXB2)
      (try clear HXB3)
      (try clear HOA)
      (try clear HOB)
      (try clear HXB4)
      (try clear HOA4)
      (try clear HOB4)
      (try clear HD4)
      (try clear HE5)
      (try clear HXB5)
      (try clear HOA5)
      (try clear HOB5)
      (try clear HD5)
      (try clear HE6)
      (try clear HC6)
      (try clear HXB6)
      (try clear HOB6)
      (try clear HD6)
      (try clear hsx4)
      (try clear hsx5)
      (try clear hsx6)
      (try clear hd6)
      (try clear hfg6)
      (try clear hsg6)
      (try clear hgx)
      (try clear hgx2)
      (try clear hgw1)
      (try clear hgw2)
      (try clear hwx)
      (try clear hsx)
      have HB0 := Lib.hid (Below.refl B0.heap.size B0)
      cases hr2 : readyB ({ h with readings := h.readings })
      case false =>
        have HR2 := Lib.hid hr2
        clear hr2
        refine (ready_any ({ h with readings := h.readings }) _ _ _ _ (HXW0.out.below HB0.out (Nat.le_refl _)) (HT0.out.below HB0.out (Nat.le_refl _)) (HXR0.out.below HB0.out (Nat.le_refl _))).mono ?_
        rw [HR2.out]
        rintro e W1 ⟨rfl, hb⟩
        (try clear hc1 hs1 hc2 hs2)
        have HD1 := Lib.hid hb
        have HB1 := Lib.hid (bgo HB0.out hb)
        obtain ⟨hc1, _, hs1⟩ := cells_of_block ((HB1.out.block _ (cells_of_block HX1.out).2.2).trans HX1.out)
        obtain ⟨hc2, _, hs2⟩ := cells_of_block ((HB1.out.block _ (cells_of_block HX2.out).2.2).trans HX2.out)
        clear hb
        go_wp2_with fail
        refine (awake_any _).mono ?_
        rintro e W2 ⟨rfl, hb⟩
        (try clear hc1 hs1 hc2 hs2)
        have HD2 := Lib.hid hb
        have HB2 := Lib.hid (bgo HB1.out hb)
        obtain ⟨hc1, _, hs1⟩ := cells_of_block ((HB2.out.block _ (cells_of_block HX1.out).2.2).trans HX1.out)
        obtain ⟨hc2, _, hs2⟩ := cells_of_block ((HB2.out.block _ (cells_of_block HX2.out).2.2).trans HX2.out)
        clear hb
        go_wp2_with fail
        go_returns
        exact ⟨by simp, bgo HBB.out HB2.out⟩
      have HR2 := Lib.hid hr2
      obtain ⟨hS2, hf2, _, _⟩ := ready_sound hr2
      have HXL : Hid (({ h with readings := h.readings }).wet.length ≤ 10 ∧ ({ h with readings := h.readings }).readings.length ≤ 5) := Lib.hid ⟨by have h1 : (({ h with readings := h.readings }).wet.length : Int) = ({ h with readings := h.readings }).last + 1 := hS2.wetLen; have h2 : ({ h with readings := h.readings }).last ≤ 9 := hS2.last9; omega, hS2.rdgs⟩
      have hwid : Wider h ({ h with readings := h.readings }) := ⟨hS2, HS.out, rfl, rfl, rfl, rfl, rfl, rfl, ⟨Int.le_refl _, Int.le_refl _⟩, rfl, fun i _ => ⟨Int.le_refl _, Int.le_refl _⟩, rfl, fun i _ => ⟨rfl, rfl, Int.le_refl _⟩⟩
      obtain ⟨hm1, hm3⟩ := wider_plain hwid
      obtain ⟨L1, hL1⟩ : ∃ L, leaveL h = L := ⟨_, rfl⟩
      obtain ⟨L2, hL2⟩ : ∃ L, leaveL ({ h with readings := h.readings }) = L := ⟨_, rfl⟩
      replace hm1 : L2.length ≤ L1.length := by rw [← hL1, ← hL2]; exact hm1
      replace hm3 : L1 = [] → _ := fun e => hm3 (hL1.trans e)
      have HL := Lib.hid (And.intro hL1 hL2)
      have HF := Lib.hid (And.intro HF0.out hf2)
      have hm1I : ¬ (L1.length : Int) < L2.length := by omega
      have hm1d : decide (L1.length < L2.length) = false := decide_eq_false (by omega)
      by_cases h0 : 0 < L1.length
      case pos =>
        have h0I : (0 : Int) < L1.length := by omega
        clear hr2 hS2 hf2 hm3 hL1 hL2 hwid
        refine (ready_any ({ h with readings := h.readings }) _ _ _ _ (HXW0.out.below HB0.out (Nat.le_refl _)) (HT0.out.below HB0.out (Nat.le_refl _)) (HXR0.out.below HB0.out (Nat.le_refl _))).mono ?_
        rw [HR2.out]
        rintro e W1 ⟨rfl, hb⟩
        (try clear hc1 hs1 hc2 hs2)
        have HD1 := Lib.hid hb
        have HB1 := Lib.hid (bgo HB0.out hb)
        obtain ⟨hc1, _, hs1⟩ := cells_of_block ((HB1.out.block _ (cells_of_block HX1.out).2.2).trans HX1.out)
        obtain ⟨hc2, _, hs2⟩ := cells_of_block ((HB1.out.block _ (cells_of_block HX2.out).2.2).trans HX2.out)
        clear hb
        go_wp2_with fail
        refine (Heap_any (h) _ _ _ _ (HW0.out.below HB1.out (Nat.le_refl _)) (HT0.out.below HB1.out (Nat.le_refl _)) (HX0.out.below HB1.out (Nat.le_refl _)) (by show h.wet.length ≤ 1000; omega) (by show h.turns.length ≤ 1000; omega) (by show h.readings.length ≤ 1000; omega)).mono ?_
        rintro e W2 ⟨a2, b2, c2, rfl, h1, h2, h3, hb⟩
        (try clear hc1 hs1 hc2 hs2)
        have HD2 := Lib.hid hb
        have HB2 := Lib.hid (bgo HB1.out hb)
        obtain ⟨hc1, _, hs1⟩ := cells_of_block ((HB2.out.block _ (cells_of_block HX1.out).2.2).trans HX1.out)
        obtain ⟨hc2, _, hs2⟩ := cells_of_block ((HB2.out.block _ (cells_of_block HX2.out).2.2).trans HX2.out)
        clear hb
        have HH2 := Lib.hid (And.intro h1 (And.intro h2 h3))
        clear h1 h2 h3
        go_wp2_with fail
        refine (Leave_any (h) _ _ _ _ HH2.out.1 HH2.out.2.1 HH2.out.2.2).mono ?_
        rintro e W3 ⟨v, rfl, hv, hb⟩
        rw [HF.out.1]
        rw [HL.out.1] at hv
        obtain ⟨o3, k3, rfl⟩ := hv.open
        clear hv
        (try clear hc1 hs1 hc2 hs2)
        have HD3 := Lib.hid hb
        have HB3 := Lib.hid (bgo HB2.out hb)
        obtain ⟨hc1, _, hs1⟩ := cells_of_block ((HB3.out.block _ (cells_of_block HX1.out).2.2).trans HX1.out)
        obtain ⟨hc2, _, hs2⟩ := cells_of_block ((HB3.out.block _ (cells_of_block HX2.out).2.2).trans HX2.out)
        clear hb
        go_wp2_with fail
        refine (Heap_any ({ h with readings := h.readings }) _ _ _ _ (HXW0.out.below HB3.out (Nat.le_refl _)) (HT0.out.below HB3.out (Nat.le_refl _)) (HXR0.out.below HB3.out (Nat.le_refl _)) (Nat.le_trans HXL.out.1 (by omega)) (by show h.turns.length ≤ 1000; omega) (Nat.le_trans HXL.out.2 (by omega))).mono ?_
        rintro e W4 ⟨a4, b4, c4, rfl, h1, h2, h3, hb⟩
        (try clear hc1 hs1 hc2 hs2)
        have HD4 := Lib.hid hb
        have HB4 := Lib.hid (bgo HB3.out hb)
        obtain ⟨hc1, _, hs1⟩ := cells_of_block ((HB4.out.block _ (cells_of_block HX1.out).2.2).trans HX1.out)
        obtain ⟨hc2, _, hs2⟩ := cells_of_block ((HB4.out.block _ (cells_of_block HX2.out).2.2).trans HX2.out)
        clear hb
        have HH4 := Lib.hid (And.intro h1 (And.intro h2 h3))
        clear h1 h2 h3
        go_wp2_with fail
        refine (Leave_any ({ h with readings := h.readings }) _ _ _ _ HH4.out.1 HH4.out.2.1 HH4.out.2.2).mono ?_
        rintro e W5 ⟨v, rfl, hv, hb⟩
        rw [HF.out.2]
        rw [HL.out.2] at hv
        obtain ⟨o5, k5, rfl⟩ := hv.open
        clear hv
        (try clear hc1 hs1 hc2 hs2)
        have HD5 := Lib.hid hb
        have HB5 := Lib.hid (bgo HB4.out hb)
        obtain ⟨hc1, _, hs1⟩ := cells_of_block ((HB5.out.block _ (cells_of_block HX1.out).2.2).trans HX1.out)
        obtain ⟨hc2, _, hs2⟩ := cells_of_block ((HB5.out.block _ (cells_of_block HX2.out).2.2).trans HX2.out)
        clear hb
        go_wp2_with fail
        refine (awake_any _).mono ?_
        rintro e W6 ⟨rfl, hb⟩
        (try clear hc1 hs1 hc2 hs2)
        have HD6 := Lib.hid hb
        have HB6 := Lib.hid (bgo HB5.out hb)
        obtain ⟨hc1, _, hs1⟩ := cells_of_block ((HB6.out.block _ (cells_of_block HX1.out).2.2).trans HX1.out)
        obtain ⟨hc2, _, hs2⟩ := cells_of_block ((HB6.out.block _ (cells_of_block HX2.out).2.2).trans HX2.out)
        clear hb
        go_wp2_with fail
        go_returns
        exact ⟨by simp, bgo HBB.out HB6.out⟩
      obtain rfl : L2 = [] := List.eq_nil_of_length_eq_zero (by omega)
      obtain rfl : L1 = [] := List.eq_nil_of_length_eq_zero (by omega)
      clear hm1 hm1I hm1d h0
      obtain ⟨hn, hsub⟩ := hm3 rfl
      obtain ⟨p1, p2, p3, _, p5, p6⟩ := hsub.plain hn (turns := turnedL h bs) HTU.out
      obtain ⟨B1, hB1⟩ : ∃ B, boundsOut h (turnedL h bs) = B := ⟨_, rfl⟩
      obtain ⟨B2, hB2⟩ : ∃ B, boundsOut ({ h with readings := h.readings }) (turnedL h bs) = B := ⟨_, rfl⟩
      obtain ⟨n1, hn1⟩ : ∃ n, neededV h = n := ⟨_, rfl⟩
      obtain ⟨n2, hn2⟩ : ∃ n, neededV ({ h with readings := h.readings }) = n := ⟨_, rfl⟩
      replace p3 : narrowerB B1 B2 = true := by rw [← hB1, ← hB2]; exact p3
      replace p5 : 0 ≤ n1 := by rw [← hn1]; exact p5
      replace p6 : n1 ≤ n2 := by rw [← hn1, ← hn2]; exact p6
      have HP := Lib.hid (And.intro p1 (And.intro p2 (And.intro p3 (And.intro hB1 (And.intro hB2 (And.intro hn1 hn2))))))
      have hn0 : ¬ n1 < 0 := by omega
      clear hr2 hS2 hf2 hL1 hL2 hm3 hn hsub p1 p2 p3 hB1 hB2 hn1 hn2 hwid
      refine (ready_any ({ h with readings := h.readings }) _ _ _ _ (HXW0.out.below HB0.out (Nat.le_refl _)) (HT0.out.below HB0.out (Nat.le_refl _)) (HXR0.out.below HB0.out (Nat.le_refl _))).mono ?_
      rw [HR2.out]
      rintro e W1 ⟨rfl, hb⟩
      (try clear hc1 hs1 hc2 hs2)
      have HD1 := Lib.hid hb
      have HB1 := Lib.hid (bgo HB0.out hb)
      obtain ⟨hc1, _, hs1⟩ := cells_of_block ((HB1.out.block _ (cells_of_block HX1.out).2.2).trans HX1.out)
      obtain ⟨hc2, _, hs2⟩ := cells_of_block ((HB1.out.block _ (cells_of_block HX2.out).2.2).trans HX2.out)
      clear hb
      go_wp2_with fail
      refine (Heap_any (h) _ _ _ _ (HW0.out.below HB1.out (Nat.le_refl _)) (HT0.out.below HB1.out (Nat.le_refl _)) (HX0.out.below HB1.out (Nat.le_refl _)) (by show h.wet.length ≤ 1000; omega) (by show h.turns.length ≤ 1000; omega) (by show h.readings.length ≤ 1000; omega)).mono ?_
      rintro e W2 ⟨a2, b2, c2, rfl, h1, h2, h3, hb⟩
      (try clear hc1 hs1 hc2 hs2)
      have HD2 := Lib.hid hb
      have HB2 := Lib.hid (bgo HB1.out hb)
      obtain ⟨hc1, _, hs1⟩ := cells_of_block ((HB2.out.block _ (cells_of_block HX1.out).2.2).trans HX1.out)
      obtain ⟨hc2, _, hs2⟩ := cells_of_block ((HB2.out.block _ (cells_of_block HX2.out).2.2).trans HX2.out)
      clear hb
      have HH2 := Lib.hid (And.intro h1 (And.intro h2 h3))
      clear h1 h2 h3
      go_wp2_with fail
      refine (Leave_any (h) _ _ _ _ HH2.out.1 HH2.out.2.1 HH2.out.2.2).mono ?_
      rintro e W3 ⟨v, rfl, hv, hb⟩
      rw [HF.out.1]
      rw [HL.out.1] at hv
      obtain ⟨o3, k3, rfl⟩ := hv.open
      clear hv
      (try clear hc1 hs1 hc2 hs2)
      have HD3 := Lib.hid hb
      have HB3 := Lib.hid (bgo HB2.out hb)
      obtain ⟨hc1, _, hs1⟩ := cells_of_block ((HB3.out.block _ (cells_of_block HX1.out).2.2).trans HX1.out)
      obtain ⟨hc2, _, hs2⟩ := cells_of_block ((HB3.out.block _ (cells_of_block HX2.out).2.2).trans HX2.out)
      clear hb
      go_wp2_with fail
      refine (Heap_any ({ h with readings := h.readings }) _ _ _ _ (HXW0.out.below HB3.out (Nat.le_refl _)) (HT0.out.below HB3.out (Nat.le_refl _)) (HXR0.out.below HB3.out (Nat.le_refl _)) (Nat.le_trans HXL.out.1 (by omega)) (by show h.turns.length ≤ 1000; omega) (Nat.le_trans HXL.out.2 (by omega))).mono ?_
      rintro e W4 ⟨a4, b4, c4, rfl, h1, h2, h3, hb⟩
      (try clear hc1 hs1 hc2 hs2)
      have HD4 := Lib.hid hb
      have HB4 := Lib.hid (bgo HB3.out hb)
      obtain ⟨hc1, _, hs1⟩ := cells_of_block ((HB4.out.block _ (cells_of_block HX1.out).2.2).trans HX1.out)
      obtain ⟨hc2, _, hs2⟩ := cells_of_block ((HB4.out.block _ (cells_of_block HX2.out).2.2).trans HX2.out)
      clear hb
      have HH4 := Lib.hid (And.intro h1 (And.intro h2 h3))
      clear h1 h2 h3
      go_wp2_with fail
      refine (Leave_any ({ h with readings := h.readings }) _ _ _ _ HH4.out.1 HH4.out.2.1 HH4.out.2.2).mono ?_
      rintro e W5 ⟨v, rfl, hv, hb⟩
      rw [HF.out.2]
      rw [HL.out.2] at hv
      obtain ⟨o5, k5, rfl⟩ := hv.open
      clear hv
      (try clear hc1 hs1 hc2 hs2)
      have HD5 := Lib.hid hb
      have HB5 := Lib.hid (bgo HB4.out hb)
      obtain ⟨hc1, _, hs1⟩ := cells_of_block ((HB5.out.block _ (cells_of_block HX1.out).2.2).trans HX1.out)
      obtain ⟨hc2, _, hs2⟩ := cells_of_block ((HB5.out.block _ (cells_of_block HX2.out).2.2).trans HX2.out)
      clear hb
      go_wp2_with fail
      refine (turned_any h _ _ _ bs _ hl0 hl9 hbs).mono ?_
      rintro e W6 ⟨v, rfl, hv, hb⟩
      obtain ⟨o6, k6, rfl⟩ := hv.open
      have HTU6 := Lib.hid hv
      clear hv
      (try clear hc1 hs1 hc2 hs2)
      have HD6 := Lib.hid hb
      have HB6 := Lib.hid (bgo HB5.out hb)
      obtain ⟨hc1, _, hs1⟩ := cells_of_block ((HB6.out.block _ (cells_of_block HX1.out).2.2).trans HX1.out)
      obtain ⟨hc2, _, hs2⟩ := cells_of_block ((HB6.out.block _ (cells_of_block HX2.out).2.2).trans HX2.out)
      clear hb
      go_wp2_with fail
      refine (Heap_any (h) _ _ _ _ (HW0.out.below HB6.out (Nat.le_refl _)) (HT0.out.below HB6.out (Nat.le_refl _)) (HX0.out.below HB6.out (Nat.le_refl _)) (by show h.wet.length ≤ 1000; omega) (by show h.turns.length ≤ 1000; omega) (by show h.readings.length ≤ 1000; omega)).mono ?_
      rintro e W7 ⟨a7, b7, c7, rfl, h1, h2, h3, hb⟩
      (try clear hc1 hs1 hc2 hs2)
      have HD7 := Lib.hid hb
      have HB7 := Lib.hid (bgo HB6.out hb)
      obtain ⟨hc1, _, hs1⟩ := cells_of_block ((HB7.out.block _ (cells_of_block HX1.out).2.2).trans HX1.out)
      obtain ⟨hc2, _, hs2⟩ := cells_of_block ((HB7.out.block _ (cells_of_block HX2.out).2.2).trans HX2.out)
      clear hb
      have HH7 := Lib.hid (And.intro h1 (And.intro h2 h3))
      clear h1 h2 h3
      go_wp2_with fail
      have HTU7 := Lib.hid (SlAt.below HTU6.out HD7.out (Nat.le_refl _))
      refine (list_any (turnedL h bs) _ _ (HTU7.out) (by omega)).mono ?_
      rintro e W8 ⟨v, rfl, ho, hb⟩
      obtain ⟨o8, k8, rfl⟩ := owns_slice ho
      have HV8 := Lib.hid (SlAt.of_owns ho)
      clear ho
      (try clear hc1 hs1 hc2 hs2)
      have HD8 := Lib.hid hb
      have HB8 := Lib.hid (bgo HB7.out hb)
      obtain ⟨hc1, _, hs1⟩ := cells_of_block ((HB8.out.block _ (cells_of_block HX1.out).2.2).trans HX1.out)
      obtain ⟨hc2, _, hs2⟩ := cells_of_block ((HB8.out.block _ (cells_of_block HX2.out).2.2).trans HX2.out)
      clear hb
      go_wp2_with fail
      have HTU8 := Lib.hid (SlAt.below HTU7.out HD8.out (Nat.le_refl _))
      refine (Bounds_any (h) _ _ _ _ (turnedL h bs) _ (HH7.out.1.below HD8.out (Nat.le_refl _)) (HH7.out.2.1.below HD8.out (Nat.le_refl _)) (HH7.out.2.2.below HD8.out (Nat.le_refl _)) HV8.out).mono ?_
      rintro e W9 ⟨v, rfl, hv, hb⟩
      rw [HP.out.1]
      rw [HP.out.2.2.2.1] at hv
      obtain ⟨o9, k9, rfl⟩ := SlAt.open hv
      have HV9 := Lib.hid hv
      clear hv
      (try clear hc1 hs1 hc2 hs2)
      have HD9 := Lib.hid hb
      have HB9 := Lib.hid (bgo HB8.out hb)
      obtain ⟨hc1, _, hs1⟩ := cells_of_block ((HB9.out.block _ (cells_of_block HX1.out).2.2).trans HX1.out)
      obtain ⟨hc2, _, hs2⟩ := cells_of_block ((HB9.out.block _ (cells_of_block HX2.out).2.2).trans HX2.out)
      clear hb
      go_wp2_with fail
      have HTU9 := Lib.hid (SlAt.below HTU8.out HD9.out (Nat.le_refl _))
      refine (Heap_any ({ h with readings := h.readings }) _ _ _ _ (HXW0.out.below HB9.out (Nat.le_refl _)) (HT0.out.below HB9.out (Nat.le_refl _)) (HXR0.out.below HB9.out (Nat.le_refl _)) (Nat.le_trans HXL.out.1 (by omega)) (by show h.turns.length ≤ 1000; omega) (Nat.le_trans HXL.out.2 (by omega))).mono ?_
      rintro e W10 ⟨a10, b10, c10, rfl, h1, h2, h3, hb⟩
      (try clear hc1 hs1 hc2 hs2)
      have HD10 := Lib.hid hb
      have HB10 := Lib.hid (bgo HB9.out hb)
      obtain ⟨hc1, _, hs1⟩ := cells_of_block ((HB10.out.block _ (cells_of_block HX1.out).2.2).trans HX1.out)
      obtain ⟨hc2, _, hs2⟩ := cells_of_block ((HB10.out.block _ (cells_of_block HX2.out).2.2).trans HX2.out)
      clear hb
      have HH10 := Lib.hid (And.intro h1 (And.intro h2 h3))
      clear h1 h2 h3
      go_wp2_with fail
      have HTU10 := Lib.hid (SlAt.below HTU9.out HD10.out (Nat.le_refl _))
      refine (list_any (turnedL h bs) _ _ (HTU10.out) (by omega)).mono ?_
      rintro e W11 ⟨v, rfl, ho, hb⟩
      obtain ⟨o11, k11, rfl⟩ := owns_slice ho
      have HV11 := Lib.hid (SlAt.of_owns ho)
      clear ho
      (try clear hc1 hs1 hc2 hs2)
      have HD11 := Lib.hid hb
      have HB11 := Lib.hid (bgo HB10.out hb)
      obtain ⟨hc1, _, hs1⟩ := cells_of_block ((HB11.out.block _ (cells_of_block HX1.out).2.2).trans HX1.out)
      obtain ⟨hc2, _, hs2⟩ := cells_of_block ((HB11.out.block _ (cells_of_block HX2.out).2.2).trans HX2.out)
      clear hb
      go_wp2_with fail
      refine (Bounds_any ({ h with readings := h.readings }) _ _ _ _ (turnedL h bs) _ (HH10.out.1.below HD11.out (Nat.le_refl _)) (HH10.out.2.1.below HD11.out (Nat.le_refl _)) (HH10.out.2.2.below HD11.out (Nat.le_refl _)) HV11.out).mono ?_
      rintro e W12 ⟨v, rfl, hv, hb⟩
      rw [HP.out.2.1]
      rw [HP.out.2.2.2.2.1] at hv
      obtain ⟨o12, k12, rfl⟩ := SlAt.open hv
      have HV12 := Lib.hid hv
      clear hv
      (try clear hc1 hs1 hc2 hs2)
      have HD12 := Lib.hid hb
      have HB12 := Lib.hid (bgo HB11.out hb)
      obtain ⟨hc1, _, hs1⟩ := cells_of_block ((HB12.out.block _ (cells_of_block HX1.out).2.2).trans HX1.out)
      obtain ⟨hc2, _, hs2⟩ := cells_of_block ((HB12.out.block _ (cells_of_block HX2.out).2.2).trans HX2.out)
      clear hb
      go_wp2_with fail
      refine wp_region_rg 6 [] none [(1, Spec.val (iv n1)), (3, Spec.val (iv n2))] (by kernel_rfl) (by kernel_rfl) ?_
      simp only [List.take_succ_cons, List.take_zero, List.drop_succ_cons, List.drop_zero]
      repeat (first | (refine tree_det (by rfl) _ (by rfl) (fun W hW => by go_simp; try rfl) ?_; simp only [Act.put, List.setIfInBounds_toArray, List.set_cons_succ, List.set_cons_zero]) | (refine tree_skip (by rfl) (by rfl) ?_; simp only [Act.put, List.setIfInBounds_toArray, List.set_cons_succ, List.set_cons_zero]))
      refine tree_val _ (by rfl) (by rfl) 44 _ (fun W hW => by go_simp; try rfl) (fun W hE hF => by exact by have := needed_any h _ _ _ W (SlAt.below (HW0.out.below HB12.out (Nat.le_refl _)) (Ext.below (show Ext [] W12 W from hE)) (Nat.le_refl _)) (SlAt.below (HT0.out.below HB12.out (Nat.le_refl _)) (Ext.below (show Ext [] W12 W from hE)) (Nat.le_refl _)) (SlAt.below (HX0.out.below HB12.out (Nat.le_refl _)) (Ext.below (show Ext [] W12 W from hE)) (Nat.le_refl _)) (by omega) (by omega) (by omega); rw [HP.out.2.2.2.2.2.1] at this; exact this) ?_
      simp only [Act.put, List.setIfInBounds_toArray, List.set_cons_succ, List.set_cons_zero]
      repeat (first | (refine tree_det (by rfl) _ (by rfl) (fun W hW => by go_simp; try rfl) ?_; simp only [Act.put, List.setIfInBounds_toArray, List.set_cons_succ, List.set_cons_zero]) | (refine tree_skip (by rfl) (by rfl) ?_; simp only [Act.put, List.setIfInBounds_toArray, List.set_cons_succ, List.set_cons_zero]))
      refine tree_val _ (by rfl) (by rfl) 44 _ (fun W hW => by go_simp; try rfl) (fun W hE hF => by exact by have := needed_any ({ h with readings := h.readings }) _ _ _ W (SlAt.below (HXW0.out.below HB12.out (Nat.le_refl _)) (Ext.below (show Ext [] W12 W from hE)) (Nat.le_refl _)) (SlAt.below (HT0.out.below HB12.out (Nat.le_refl _)) (Ext.below (show Ext [] W12 W from hE)) (Nat.le_refl _)) (SlAt.below (HXR0.out.below HB12.out (Nat.le_refl _)) (Ext.below (show Ext [] W12 W from hE)) (Nat.le_refl _)) (Nat.le_trans HXL.out.1 (by omega)) (by show h.turns.length ≤ 1000; omega) (Nat.le_trans HXL.out.2 (by omega)); rw [HP.out.2.2.2.2.2.2] at this; exact this) ?_
      simp only [Act.put, List.setIfInBounds_toArray, List.set_cons_succ, List.set_cons_zero]
      repeat (first | (refine tree_det (by rfl) _ (by rfl) (fun W hW => by go_simp; try rfl) ?_; simp only [Act.put, List.setIfInBounds_toArray, List.set_cons_succ, List.set_cons_zero]) | (refine tree_skip (by rfl) (by rfl) ?_; simp only [Act.put, List.setIfInBounds_toArray, List.set_cons_succ, List.set_cons_zero]))
      intro W13 hE hF
      have hb := Ext.below (show Ext [] W12 W13 from hE)
      (try clear hc1 hs1 hc2 hs2)
      have HD13 := Lib.hid hb
      have HB13 := Lib.hid (bgo HB12.out hb)
      obtain ⟨hc1, _, hs1⟩ := cells_of_block ((HB13.out.block _ (cells_of_block HX1.out).2.2).trans HX1.out)
      obtain ⟨hc2, _, hs2⟩ := cells_of_block ((HB13.out.block _ (cells_of_block HX2.out).2.2).trans HX2.out)
      clear hb
      clear hE hF
      go_wp2_with fail
      have HN := narrower_any B1 B2 (.slice o9 B1.length k9) (.slice o12 B2.length k12) W13
        (SlAt.below (SlAt.below (SlAt.below (SlAt.below HV9.out HD10.out (Nat.le_refl _)) HD11.out (Nat.le_refl _)) HD12.out (Nat.le_refl _)) HD13.out (Nat.le_refl _))
        (SlAt.below HV12.out HD13.out (Nat.le_refl _))
      rw [HP.out.2.2.1] at HN
      refine HN.mono ?_
      clear HN
      rintro e W14 ⟨rfl, hb⟩
      (try clear hc1 hs1 hc2 hs2)
      have HD14 := Lib.hid hb
      have HB14 := Lib.hid (bgo HB13.out hb)
      obtain ⟨hc1, _, hs1⟩ := cells_of_block ((HB14.out.block _ (cells_of_block HX1.out).2.2).trans HX1.out)
      obtain ⟨hc2, _, hs2⟩ := cells_of_block ((HB14.out.block _ (cells_of_block HX2.out).2.2).trans HX2.out)
      clear hb
      go_wp2_with fail
      refine (awake_any _).mono ?_
      rintro e W15 ⟨rfl, hb⟩
      (try clear hc1 hs1 hc2 hs2)
      have HD15 := Lib.hid hb
      have HB15 := Lib.hid (bgo HB14.out hb)
      obtain ⟨hc1, _, hs1⟩ := cells_of_block ((HB15.out.block _ (cells_of_block HX1.out).2.2).trans HX1.out)
      obtain ⟨hc2, _, hs2⟩ := cells_of_block ((HB15.out.block _ (cells_of_block HX2.out).2.2).trans HX2.out)
      clear hb
      go_wp2_with fail
      go_returns
      exact ⟨by simp, bgo HBB.out HB15.out⟩
    · have hr1 : (0 : Int) < h.readings.length := by omega
      obtain ⟨J, hJ⟩ : ∃ J : Nat, (kk : Int) % (h.readings.length : Int) = J := Int.eq_ofNat_of_zero_le (Int.emod_nonneg _ (by omega))
      have HNZ : Hid (¬ h.readings = []) := Lib.hid (fun e => hr0 (by rw [e]; rfl))
      have hJI : (J : Int) < h.readings.length := by have := Int.emod_lt_of_pos (kk : Int) hr1; omega
      have hJl : J < h.readings.length := by omega
      clear hr0
      go_wp2_with fail
      refine gworld fun W4 hW4 => ?_
      have HXB4 := Lib.hid (show W4.heap[W1.heap.size]? = some (.cells #[iv h.last, iv h.size, iv h.cool, iv h.die, iv h.burn, iv h.start.1, iv h.start.2, .slice oa h.wet.length ca, .slice ot h.turns.length ct, .slice ob h.readings.length cb] 28 (0, 0)) from by rw [hW4]; exact set_block HXB3.out _)
      have HOA4 : Hid (W4.ownsRow W2.heap.size 23 2 (.slice oa h.wet.length ca) h.wet.length (pairCells h.wet)) := Lib.hid (by rw [hW4]; exact owns_ext (Ms := [W1.heap.size]) HOA.out (ext_set _ ⟨W1.heap.size, 9, none⟩ _) (by simpa using hsx))
      have HOB4 : Hid (W4.ownsRow W2.heap.size 79 3 (.slice ob h.readings.length cb) h.readings.length (tripleCells h.readings)) := Lib.hid (by rw [hW4]; exact owns_ext (Ms := [W1.heap.size]) HOB.out (ext_set _ ⟨W1.heap.size, 9, none⟩ _) (by simpa using hsx))
      have HD4 := Lib.hid (show Below W1.heap.size W1 W4 from by rw [hW4]; exact bgoSet HD3.out (Nat.le_refl _) _)
      obtain ⟨g, hog⟩ : ∃ g, ob = some ⟨g, 0, none⟩ := by
        obtain ⟨_, ⟨_, h2⟩ | ⟨g, cg', cur, hv, _⟩⟩ := HOB4.out
        · omega
        · cases hv; exact ⟨g, rfl⟩
      subst hog
      obtain ⟨b1, f1, he1, hz1, d1, d2, d3⟩ := TriplesAt.cell (SlAt.of_owns HOB4.out) hJl
      cases he1
      rw [Nat.zero_add] at d1 d2 d3
      obtain ⟨r, hr⟩ : ∃ r, h.readings[J] = r := ⟨_, rfl⟩
      rw [hr] at d1 d2 d3
      have hrb := HS.out.rdg r (by rw [← hr]; exact List.getElem_mem hJl)
      have HRJ := Lib.hid hr
      clear hW4 hr hcx hcr
      obtain ⟨hcx, _, hsx4⟩ := cells_of_block HXB4.out
      obtain ⟨hge, _⟩ := owns_ge HOB4.out g rfl
      obtain ⟨rh1, rs1, re1⟩ := r
      have hre : 0 ≤ re1 ∧ re1 ≤ 50 := hrb.2.2
      refine wp_region_rg 18 [] none [] (by kernel_rfl) (by kernel_rfl) ?_
      simp only [List.take_succ_cons, List.take_zero, List.drop_succ_cons, List.drop_zero]
      repeat (first | (refine tree_det (by rfl) _ (by rfl) (fun W hW => by go_simp; try rfl) ?_; simp only [Act.put, List.setIfInBounds_toArray, List.set_cons_succ, List.set_cons_zero]) | (refine tree_skip (by rfl) (by rfl) ?_; simp only [Act.put, List.setIfInBounds_toArray, List.set_cons_succ, List.set_cons_zero]))
      refine tree_det (by rfl) (.int .i64 (J : Int)) (by rfl) (fun W hW => by go_simp; (try simp (disch := omega) only [Int.tmod_eq_emod_of_nonneg]); rw [if_neg HNZ.out, hJ]) ?_
      simp only [Act.put, List.setIfInBounds_toArray, List.set_cons_succ, List.set_cons_zero]
      repeat (first | (refine tree_det (by rfl) _ (by rfl) (fun W hW => by go_simp; try rfl) ?_; simp only [Act.put, List.setIfInBounds_toArray, List.set_cons_succ, List.set_cons_zero]) | (refine tree_skip (by rfl) (by rfl) ?_; simp only [Act.put, List.setIfInBounds_toArray, List.set_cons_succ, List.set_cons_zero]))
      refine tree_det (by rfl) (.int .i64 (J : Int)) (by rfl) (fun W hW => by go_simp; (try simp (disch := omega) only [Int.tmod_eq_emod_of_nonneg]); rw [if_neg HNZ.out, hJ]) ?_
      simp only [Act.put, List.setIfInBounds_toArray, List.set_cons_succ, List.set_cons_zero]
      repeat (first | (refine tree_det (by rfl) _ (by rfl) (fun W hW => by go_simp; (try simp (disch := omega) only [IntWalk.i64_in]); try rfl) ?_; simp only [Act.put, List.setIfInBounds_toArray, List.set_cons_succ, List.set_cons_zero]) | (refine tree_skip (by rfl) (by rfl) ?_; simp only [Act.put, List.setIfInBounds_toArray, List.set_cons_succ, List.set_cons_zero]))
      intro W5 hE hF
      have hE' : Ext [] W4 W5 := hE
      have HE5 := Lib.hid hE'
      have HXB5 := Lib.hid ((hE'.block _ hsx4 (by simp)).trans HXB4.out)
      have HOA5 : Hid (W5.ownsRow W2.heap.size 23 2 (.slice oa h.wet.length ca) h.wet.length (pairCells h.wet)) := Lib.hid (owns_ext (Ms := []) HOA4.out hE' (by simp))
      have HOB5 : Hid (W5.ownsRow W2.heap.size 79 3 (.slice (some ⟨g, 0, none⟩) h.readings.length cb) h.readings.length (tripleCells h.readings)) := Lib.hid (owns_ext (Ms := []) HOB4.out hE' (by simp))
      have HD5 := Lib.hid (bgo HD4.out hE'.below)
      clear hE hF hE' d1 d2 d3 hcx
      obtain ⟨b1, f1, he1, hz1, d1, d2, d3⟩ := TriplesAt.cell (SlAt.of_owns HOB5.out) hJl
      cases he1
      rw [Nat.zero_add, HRJ.out] at d1 d2 d3
      obtain ⟨cur, hcur⟩ : ∃ cur, W5.heap[g]? = some (.cells cur 79 (0, 0)) := by
        obtain ⟨_, ⟨h1, _⟩ | ⟨g', cg', cur, hv, _, k2, _⟩⟩ := HOB5.out
        · cases h1
        · cases hv; exact ⟨cur, k2⟩
      have HCUR := Lib.hid hcur
      obtain ⟨_, hfg, hsg⟩ := cells_of_block hcur
      clear hcur
      have hgx : W1.heap.size ≠ g := by omega
      have hgx2 : g ≠ W1.heap.size := by omega
      obtain ⟨hcx, _, hsx5⟩ := cells_of_block HXB5.out
      obtain ⟨hcA, _, _⟩ := cells_of_block (((bgo HB1.out HD5.out).block w.heap.size (by simp)).trans (heap_new0 w _))
      have hgw1 : g ≠ w.heap.size := by omega
      have hgw2 : w.heap.size ≠ g := by omega
      go_wp2_with fail
      refine gcallsW fun B0 hB0 => ?_
      have hbB : Below W1.heap.size W1 B0 := by rw [hB0]; exact bgoSet HD5.out (by show W1.heap.size ≤ g; omega) _
      have hX2 : B0.heap[W1.heap.size]? = some (.cells #[iv h.last, iv h.size, iv h.cool, iv h.die, iv h.burn, iv h.start.1, iv h.start.2, .slice oa h.wet.length ca, .slice ot h.turns.length ct, .slice (some ⟨g, 0, none⟩) h.readings.length cb] 28 (0, 0)) := by rw [hB0]; exact (Below.heap_setCell _ _ _ _ (by show W1.heap.size ≠ g; omega)).trans HXB5.out
      have HXW0 : Hid (PairsAt B0 (.slice oa h.wet.length ca) h.wet) := Lib.hid (by
        rw [hB0]
        exact SlAt.of_owns (owns_ext' HOA5.out (ext_set W5 ⟨g, J * 3 + 2, none⟩ _) (by simpa using owns_ne13 HOA5.out HCUR.out (by decide))))
      have HXR0 : Hid (TriplesAt B0 (.slice (some ⟨g, 0, none⟩) h.readings.length cb) (h.readings.set J (rh1, rs1, min 50 (re1 + low)))) := Lib.hid (by
        have h1 := triples_set (r := (rh1, rs1, re1)) HOB5.out (by rw [List.getElem?_eq_getElem hJl, HRJ.out]) (min 50 (re1 + low))
        have h3 := SlAt.of_owns h1
        unfold TriplesAt
        rw [List.length_set] at h3 ⊢
        rw [hB0]
        exact h3)
      clear hB0
      have HBB := Lib.hid (show Below w.heap.size w B0 from bgo (bgoAlloc (Below.refl _ _) _) (show Below (w.alloc (.cells #[.int .i64 h.last, .int .i64 h.size, .int .i64 h.cool, .int .i64 h.die, .int .i64 h.burn, .int .i64 h.start.1, .int .i64 h.start.2, .slice ow h.wet.length cw, .slice ot h.turns.length ct, .slice ox h.readings.length cx] 28)).heap.size _ B0 from bgo HB1.out hbB))
      have HX1 := Lib.hid (show B0.heap[w.heap.size]? = some (.cells #[.int .i64 h.last, .int .i64 h.size, .int .i64 h.cool, .int .i64 h.die, .int .i64 h.burn, .int .i64 h.start.1, .int .i64 h.start.2, .slice ow h.wet.length cw, .slice ot h.turns.length ct, .slice ox h.readings.length cx] 28 (0, 0)) from (hbB.block _ hwx).trans ((HB1.out.block w.heap.size (by simp)).trans (heap_new0 w _)))
      have HX2 := Lib.hid (show B0.heap[W1.heap.size]? = some (.cells #[iv h.last, iv h.size, iv h.cool, iv h.die, iv h.burn, iv h.start.1, iv h.start.2, .slice oa h.wet.length ca, .slice ot h.turns.length ct, .slice (some ⟨g, 0, none⟩) h.readings.length cb] 28 (0, 0)) from hX2)
      have HW0 := Lib.hid (HW.out.below HBB.out (Nat.le_refl _))
      have HT0 := Lib.hid (HT.out.below HBB.out (Nat.le_refl _))
      have HX0 := Lib.hid (HX.out.below HBB.out (Nat.le_refl _))
      (try clear HB0)
      (try clear HB1)
      (try clear HB2)
      (try clear HB3)
      (try clear HD1)
      (try clear HD2)
      (try clear HD3)
      (try clear hbB)
      (try clear hX2)
      (try clear hcx)
      (try clear hcr)
      (try clear hsr)
      (try clear hcA)
      (try clear hwx1)
      (try clear hwx2)
      (try clear hsx3)
      (try clear HXB2)
      (try clear HXB3)
      (try clear HOA)
      (try clear HOB)
      (try clear HXB4)
      (try clear HOA4)
      (try clear HOB4)
      (try clear HD4)
      (try clear HE5)
      (try clear HXB5)
      (try clear HOA5)
      (try clear HOB5)
      (try clear HD5)
      (try clear HE6)
      (try clear HC6)
      (try clear HXB6)
      (try clear HOB6)
      (try clear HD6)
      (try clear hsx4)
      (try clear hsx5)
      (try clear hsx6)
      (try clear hd6)
      (try clear hfg6)
      (try clear hsg6)
      (try clear hgx)
      (try clear hgx2)
      (try clear hgw1)
      (try clear hgw2)
      (try clear hwx)
      (try clear hsx)
      have HB0 := Lib.hid (Below.refl B0.heap.size B0)
      cases hr2 : readyB ({ h with readings := h.readings.set J (rh1, rs1, min 50 (re1 + low)) })
      case false =>
        have HR2 := Lib.hid hr2
        clear hr2
        refine (ready_any ({ h with readings := h.readings.set J (rh1, rs1, min 50 (re1 + low)) }) _ _ _ _ (HXW0.out.below HB0.out (Nat.le_refl _)) (HT0.out.below HB0.out (Nat.le_refl _)) (HXR0.out.below HB0.out (Nat.le_refl _))).mono ?_
        rw [HR2.out]
        rintro e W1 ⟨rfl, hb⟩
        (try clear hc1 hs1 hc2 hs2)
        have HD1 := Lib.hid hb
        have HB1 := Lib.hid (bgo HB0.out hb)
        obtain ⟨hc1, _, hs1⟩ := cells_of_block ((HB1.out.block _ (cells_of_block HX1.out).2.2).trans HX1.out)
        obtain ⟨hc2, _, hs2⟩ := cells_of_block ((HB1.out.block _ (cells_of_block HX2.out).2.2).trans HX2.out)
        clear hb
        go_wp2_with fail
        refine (awake_any _).mono ?_
        rintro e W2 ⟨rfl, hb⟩
        (try clear hc1 hs1 hc2 hs2)
        have HD2 := Lib.hid hb
        have HB2 := Lib.hid (bgo HB1.out hb)
        obtain ⟨hc1, _, hs1⟩ := cells_of_block ((HB2.out.block _ (cells_of_block HX1.out).2.2).trans HX1.out)
        obtain ⟨hc2, _, hs2⟩ := cells_of_block ((HB2.out.block _ (cells_of_block HX2.out).2.2).trans HX2.out)
        clear hb
        go_wp2_with fail
        go_returns
        exact ⟨by simp, bgo HBB.out HB2.out⟩
      have HR2 := Lib.hid hr2
      obtain ⟨hS2, hf2, _, _⟩ := ready_sound hr2
      have HXL : Hid (({ h with readings := h.readings.set J (rh1, rs1, min 50 (re1 + low)) }).wet.length ≤ 10 ∧ ({ h with readings := h.readings.set J (rh1, rs1, min 50 (re1 + low)) }).readings.length ≤ 5) := Lib.hid ⟨by have h1 : (({ h with readings := h.readings.set J (rh1, rs1, min 50 (re1 + low)) }).wet.length : Int) = ({ h with readings := h.readings.set J (rh1, rs1, min 50 (re1 + low)) }).last + 1 := hS2.wetLen; have h2 : ({ h with readings := h.readings.set J (rh1, rs1, min 50 (re1 + low)) }).last ≤ 9 := hS2.last9; omega, hS2.rdgs⟩
      have hwid : Wider h ({ h with readings := h.readings.set J (rh1, rs1, min 50 (re1 + low)) }) := (wider_rdg HS.out hJl HRJ.out hlow2.1 hS2)
      obtain ⟨hm1, hm3⟩ := wider_plain hwid
      obtain ⟨L1, hL1⟩ : ∃ L, leaveL h = L := ⟨_, rfl⟩
      obtain ⟨L2, hL2⟩ : ∃ L, leaveL ({ h with readings := h.readings.set J (rh1, rs1, min 50 (re1 + low)) }) = L := ⟨_, rfl⟩
      replace hm1 : L2.length ≤ L1.length := by rw [← hL1, ← hL2]; exact hm1
      replace hm3 : L1 = [] → _ := fun e => hm3 (hL1.trans e)
      have HL := Lib.hid (And.intro hL1 hL2)
      have HF := Lib.hid (And.intro HF0.out hf2)
      have hm1I : ¬ (L1.length : Int) < L2.length := by omega
      have hm1d : decide (L1.length < L2.length) = false := decide_eq_false (by omega)
      by_cases h0 : 0 < L1.length
      case pos =>
        have h0I : (0 : Int) < L1.length := by omega
        clear hr2 hS2 hf2 hm3 hL1 hL2 hwid
        refine (ready_any ({ h with readings := h.readings.set J (rh1, rs1, min 50 (re1 + low)) }) _ _ _ _ (HXW0.out.below HB0.out (Nat.le_refl _)) (HT0.out.below HB0.out (Nat.le_refl _)) (HXR0.out.below HB0.out (Nat.le_refl _))).mono ?_
        rw [HR2.out]
        rintro e W1 ⟨rfl, hb⟩
        (try clear hc1 hs1 hc2 hs2)
        have HD1 := Lib.hid hb
        have HB1 := Lib.hid (bgo HB0.out hb)
        obtain ⟨hc1, _, hs1⟩ := cells_of_block ((HB1.out.block _ (cells_of_block HX1.out).2.2).trans HX1.out)
        obtain ⟨hc2, _, hs2⟩ := cells_of_block ((HB1.out.block _ (cells_of_block HX2.out).2.2).trans HX2.out)
        clear hb
        go_wp2_with fail
        refine (Heap_any (h) _ _ _ _ (HW0.out.below HB1.out (Nat.le_refl _)) (HT0.out.below HB1.out (Nat.le_refl _)) (HX0.out.below HB1.out (Nat.le_refl _)) (by show h.wet.length ≤ 1000; omega) (by show h.turns.length ≤ 1000; omega) (by show h.readings.length ≤ 1000; omega)).mono ?_
        rintro e W2 ⟨a2, b2, c2, rfl, h1, h2, h3, hb⟩
        (try clear hc1 hs1 hc2 hs2)
        have HD2 := Lib.hid hb
        have HB2 := Lib.hid (bgo HB1.out hb)
        obtain ⟨hc1, _, hs1⟩ := cells_of_block ((HB2.out.block _ (cells_of_block HX1.out).2.2).trans HX1.out)
        obtain ⟨hc2, _, hs2⟩ := cells_of_block ((HB2.out.block _ (cells_of_block HX2.out).2.2).trans HX2.out)
        clear hb
        have HH2 := Lib.hid (And.intro h1 (And.intro h2 h3))
        clear h1 h2 h3
        go_wp2_with fail
        refine (Leave_any (h) _ _ _ _ HH2.out.1 HH2.out.2.1 HH2.out.2.2).mono ?_
        rintro e W3 ⟨v, rfl, hv, hb⟩
        rw [HF.out.1]
        rw [HL.out.1] at hv
        obtain ⟨o3, k3, rfl⟩ := hv.open
        clear hv
        (try clear hc1 hs1 hc2 hs2)
        have HD3 := Lib.hid hb
        have HB3 := Lib.hid (bgo HB2.out hb)
        obtain ⟨hc1, _, hs1⟩ := cells_of_block ((HB3.out.block _ (cells_of_block HX1.out).2.2).trans HX1.out)
        obtain ⟨hc2, _, hs2⟩ := cells_of_block ((HB3.out.block _ (cells_of_block HX2.out).2.2).trans HX2.out)
        clear hb
        go_wp2_with fail
        refine (Heap_any ({ h with readings := h.readings.set J (rh1, rs1, min 50 (re1 + low)) }) _ _ _ _ (HXW0.out.below HB3.out (Nat.le_refl _)) (HT0.out.below HB3.out (Nat.le_refl _)) (HXR0.out.below HB3.out (Nat.le_refl _)) (Nat.le_trans HXL.out.1 (by omega)) (by show h.turns.length ≤ 1000; omega) (Nat.le_trans HXL.out.2 (by omega))).mono ?_
        rintro e W4 ⟨a4, b4, c4, rfl, h1, h2, h3, hb⟩
        (try clear hc1 hs1 hc2 hs2)
        have HD4 := Lib.hid hb
        have HB4 := Lib.hid (bgo HB3.out hb)
        obtain ⟨hc1, _, hs1⟩ := cells_of_block ((HB4.out.block _ (cells_of_block HX1.out).2.2).trans HX1.out)
        obtain ⟨hc2, _, hs2⟩ := cells_of_block ((HB4.out.block _ (cells_of_block HX2.out).2.2).trans HX2.out)
        clear hb
        have HH4 := Lib.hid (And.intro h1 (And.intro h2 h3))
        clear h1 h2 h3
        go_wp2_with fail
        refine (Leave_any ({ h with readings := h.readings.set J (rh1, rs1, min 50 (re1 + low)) }) _ _ _ _ HH4.out.1 HH4.out.2.1 HH4.out.2.2).mono ?_
        rintro e W5 ⟨v, rfl, hv, hb⟩
        rw [HF.out.2]
        rw [HL.out.2] at hv
        obtain ⟨o5, k5, rfl⟩ := hv.open
        clear hv
        (try clear hc1 hs1 hc2 hs2)
        have HD5 := Lib.hid hb
        have HB5 := Lib.hid (bgo HB4.out hb)
        obtain ⟨hc1, _, hs1⟩ := cells_of_block ((HB5.out.block _ (cells_of_block HX1.out).2.2).trans HX1.out)
        obtain ⟨hc2, _, hs2⟩ := cells_of_block ((HB5.out.block _ (cells_of_block HX2.out).2.2).trans HX2.out)
        clear hb
        go_wp2_with fail
        refine (awake_any _).mono ?_
        rintro e W6 ⟨rfl, hb⟩
        (try clear hc1 hs1 hc2 hs2)
        have HD6 := Lib.hid hb
        have HB6 := Lib.hid (bgo HB5.out hb)
        obtain ⟨hc1, _, hs1⟩ := cells_of_block ((HB6.out.block _ (cells_of_block HX1.out).2.2).trans HX1.out)
        obtain ⟨hc2, _, hs2⟩ := cells_of_block ((HB6.out.block _ (cells_of_block HX2.out).2.2).trans HX2.out)
        clear hb
        go_wp2_with fail
        go_returns
        exact ⟨by simp, bgo HBB.out HB6.out⟩
      obtain rfl : L2 = [] := List.eq_nil_of_length_eq_zero (by omega)
      obtain rfl : L1 = [] := List.eq_nil_of_length_eq_zero (by omega)
      clear hm1 hm1I hm1d h0
      obtain ⟨hn, hsub⟩ := hm3 rfl
      obtain ⟨p1, p2, p3, _, p5, p6⟩ := hsub.plain hn (turns := turnedL h bs) HTU.out
      obtain ⟨B1, hB1⟩ : ∃ B, boundsOut h (turnedL h bs) = B := ⟨_, rfl⟩
      obtain ⟨B2, hB2⟩ : ∃ B, boundsOut ({ h with readings := h.readings.set J (rh1, rs1, min 50 (re1 + low)) }) (turnedL h bs) = B := ⟨_, rfl⟩
      obtain ⟨n1, hn1⟩ : ∃ n, neededV h = n := ⟨_, rfl⟩
      obtain ⟨n2, hn2⟩ : ∃ n, neededV ({ h with readings := h.readings.set J (rh1, rs1, min 50 (re1 + low)) }) = n := ⟨_, rfl⟩
      replace p3 : narrowerB B1 B2 = true := by rw [← hB1, ← hB2]; exact p3
      replace p5 : 0 ≤ n1 := by rw [← hn1]; exact p5
      replace p6 : n1 ≤ n2 := by rw [← hn1, ← hn2]; exact p6
      have HP := Lib.hid (And.intro p1 (And.intro p2 (And.intro p3 (And.intro hB1 (And.intro hB2 (And.intro hn1 hn2))))))
      have hn0 : ¬ n1 < 0 := by omega
      clear hr2 hS2 hf2 hL1 hL2 hm3 hn hsub p1 p2 p3 hB1 hB2 hn1 hn2 hwid
      refine (ready_any ({ h with readings := h.readings.set J (rh1, rs1, min 50 (re1 + low)) }) _ _ _ _ (HXW0.out.below HB0.out (Nat.le_refl _)) (HT0.out.below HB0.out (Nat.le_refl _)) (HXR0.out.below HB0.out (Nat.le_refl _))).mono ?_
      rw [HR2.out]
      rintro e W1 ⟨rfl, hb⟩
      (try clear hc1 hs1 hc2 hs2)
      have HD1 := Lib.hid hb
      have HB1 := Lib.hid (bgo HB0.out hb)
      obtain ⟨hc1, _, hs1⟩ := cells_of_block ((HB1.out.block _ (cells_of_block HX1.out).2.2).trans HX1.out)
      obtain ⟨hc2, _, hs2⟩ := cells_of_block ((HB1.out.block _ (cells_of_block HX2.out).2.2).trans HX2.out)
      clear hb
      go_wp2_with fail
      refine (Heap_any (h) _ _ _ _ (HW0.out.below HB1.out (Nat.le_refl _)) (HT0.out.below HB1.out (Nat.le_refl _)) (HX0.out.below HB1.out (Nat.le_refl _)) (by show h.wet.length ≤ 1000; omega) (by show h.turns.length ≤ 1000; omega) (by show h.readings.length ≤ 1000; omega)).mono ?_
      rintro e W2 ⟨a2, b2, c2, rfl, h1, h2, h3, hb⟩
      (try clear hc1 hs1 hc2 hs2)
      have HD2 := Lib.hid hb
      have HB2 := Lib.hid (bgo HB1.out hb)
      obtain ⟨hc1, _, hs1⟩ := cells_of_block ((HB2.out.block _ (cells_of_block HX1.out).2.2).trans HX1.out)
      obtain ⟨hc2, _, hs2⟩ := cells_of_block ((HB2.out.block _ (cells_of_block HX2.out).2.2).trans HX2.out)
      clear hb
      have HH2 := Lib.hid (And.intro h1 (And.intro h2 h3))
      clear h1 h2 h3
      go_wp2_with fail
      refine (Leave_any (h) _ _ _ _ HH2.out.1 HH2.out.2.1 HH2.out.2.2).mono ?_
      rintro e W3 ⟨v, rfl, hv, hb⟩
      rw [HF.out.1]
      rw [HL.out.1] at hv
      obtain ⟨o3, k3, rfl⟩ := hv.open
      clear hv
      (try clear hc1 hs1 hc2 hs2)
      have HD3 := Lib.hid hb
      have HB3 := Lib.hid (bgo HB2.out hb)
      obtain ⟨hc1, _, hs1⟩ := cells_of_block ((HB3.out.block _ (cells_of_block HX1.out).2.2).trans HX1.out)
      obtain ⟨hc2, _, hs2⟩ := cells_of_block ((HB3.out.block _ (cells_of_block HX2.out).2.2).trans HX2.out)
      clear hb
      go_wp2_with fail
      refine (Heap_any ({ h with readings := h.readings.set J (rh1, rs1, min 50 (re1 + low)) }) _ _ _ _ (HXW0.out.below HB3.out (Nat.le_refl _)) (HT0.out.below HB3.out (Nat.le_refl _)) (HXR0.out.below HB3.out (Nat.le_refl _)) (Nat.le_trans HXL.out.1 (by omega)) (by show h.turns.length ≤ 1000; omega) (Nat.le_trans HXL.out.2 (by omega))).mono ?_
      rintro e W4 ⟨a4, b4, c4, rfl, h1, h2, h3, hb⟩
      (try clear hc1 hs1 hc2 hs2)
      have HD4 := Lib.hid hb
      have HB4 := Lib.hid (bgo HB3.out hb)
      obtain ⟨hc1, _, hs1⟩ := cells_of_block ((HB4.out.block _ (cells_of_block HX1.out).2.2).trans HX1.out)
      obtain ⟨hc2, _, hs2⟩ := cells_of_block ((HB4.out.block _ (cells_of_block HX2.out).2.2).trans HX2.out)
      clear hb
      have HH4 := Lib.hid (And.intro h1 (And.intro h2 h3))
      clear h1 h2 h3
      go_wp2_with fail
      refine (Leave_any ({ h with readings := h.readings.set J (rh1, rs1, min 50 (re1 + low)) }) _ _ _ _ HH4.out.1 HH4.out.2.1 HH4.out.2.2).mono ?_
      rintro e W5 ⟨v, rfl, hv, hb⟩
      rw [HF.out.2]
      rw [HL.out.2] at hv
      obtain ⟨o5, k5, rfl⟩ := hv.open
      clear hv
      (try clear hc1 hs1 hc2 hs2)
      have HD5 := Lib.hid hb
      have HB5 := Lib.hid (bgo HB4.out hb)
      obtain ⟨hc1, _, hs1⟩ := cells_of_block ((HB5.out.block _ (cells_of_block HX1.out).2.2).trans HX1.out)
      obtain ⟨hc2, _, hs2⟩ := cells_of_block ((HB5.out.block _ (cells_of_block HX2.out).2.2).trans HX2.out)
      clear hb
      go_wp2_with fail
      refine (turned_any h _ _ _ bs _ hl0 hl9 hbs).mono ?_
      rintro e W6 ⟨v, rfl, hv, hb⟩
      obtain ⟨o6, k6, rfl⟩ := hv.open
      have HTU6 := Lib.hid hv
      clear hv
      (try clear hc1 hs1 hc2 hs2)
      have HD6 := Lib.hid hb
      have HB6 := Lib.hid (bgo HB5.out hb)
      obtain ⟨hc1, _, hs1⟩ := cells_of_block ((HB6.out.block _ (cells_of_block HX1.out).2.2).trans HX1.out)
      obtain ⟨hc2, _, hs2⟩ := cells_of_block ((HB6.out.block _ (cells_of_block HX2.out).2.2).trans HX2.out)
      clear hb
      go_wp2_with fail
      refine (Heap_any (h) _ _ _ _ (HW0.out.below HB6.out (Nat.le_refl _)) (HT0.out.below HB6.out (Nat.le_refl _)) (HX0.out.below HB6.out (Nat.le_refl _)) (by show h.wet.length ≤ 1000; omega) (by show h.turns.length ≤ 1000; omega) (by show h.readings.length ≤ 1000; omega)).mono ?_
      rintro e W7 ⟨a7, b7, c7, rfl, h1, h2, h3, hb⟩
      (try clear hc1 hs1 hc2 hs2)
      have HD7 := Lib.hid hb
      have HB7 := Lib.hid (bgo HB6.out hb)
      obtain ⟨hc1, _, hs1⟩ := cells_of_block ((HB7.out.block _ (cells_of_block HX1.out).2.2).trans HX1.out)
      obtain ⟨hc2, _, hs2⟩ := cells_of_block ((HB7.out.block _ (cells_of_block HX2.out).2.2).trans HX2.out)
      clear hb
      have HH7 := Lib.hid (And.intro h1 (And.intro h2 h3))
      clear h1 h2 h3
      go_wp2_with fail
      have HTU7 := Lib.hid (SlAt.below HTU6.out HD7.out (Nat.le_refl _))
      refine (list_any (turnedL h bs) _ _ (HTU7.out) (by omega)).mono ?_
      rintro e W8 ⟨v, rfl, ho, hb⟩
      obtain ⟨o8, k8, rfl⟩ := owns_slice ho
      have HV8 := Lib.hid (SlAt.of_owns ho)
      clear ho
      (try clear hc1 hs1 hc2 hs2)
      have HD8 := Lib.hid hb
      have HB8 := Lib.hid (bgo HB7.out hb)
      obtain ⟨hc1, _, hs1⟩ := cells_of_block ((HB8.out.block _ (cells_of_block HX1.out).2.2).trans HX1.out)
      obtain ⟨hc2, _, hs2⟩ := cells_of_block ((HB8.out.block _ (cells_of_block HX2.out).2.2).trans HX2.out)
      clear hb
      go_wp2_with fail
      have HTU8 := Lib.hid (SlAt.below HTU7.out HD8.out (Nat.le_refl _))
      refine (Bounds_any (h) _ _ _ _ (turnedL h bs) _ (HH7.out.1.below HD8.out (Nat.le_refl _)) (HH7.out.2.1.below HD8.out (Nat.le_refl _)) (HH7.out.2.2.below HD8.out (Nat.le_refl _)) HV8.out).mono ?_
      rintro e W9 ⟨v, rfl, hv, hb⟩
      rw [HP.out.1]
      rw [HP.out.2.2.2.1] at hv
      obtain ⟨o9, k9, rfl⟩ := SlAt.open hv
      have HV9 := Lib.hid hv
      clear hv
      (try clear hc1 hs1 hc2 hs2)
      have HD9 := Lib.hid hb
      have HB9 := Lib.hid (bgo HB8.out hb)
      obtain ⟨hc1, _, hs1⟩ := cells_of_block ((HB9.out.block _ (cells_of_block HX1.out).2.2).trans HX1.out)
      obtain ⟨hc2, _, hs2⟩ := cells_of_block ((HB9.out.block _ (cells_of_block HX2.out).2.2).trans HX2.out)
      clear hb
      go_wp2_with fail
      have HTU9 := Lib.hid (SlAt.below HTU8.out HD9.out (Nat.le_refl _))
      refine (Heap_any ({ h with readings := h.readings.set J (rh1, rs1, min 50 (re1 + low)) }) _ _ _ _ (HXW0.out.below HB9.out (Nat.le_refl _)) (HT0.out.below HB9.out (Nat.le_refl _)) (HXR0.out.below HB9.out (Nat.le_refl _)) (Nat.le_trans HXL.out.1 (by omega)) (by show h.turns.length ≤ 1000; omega) (Nat.le_trans HXL.out.2 (by omega))).mono ?_
      rintro e W10 ⟨a10, b10, c10, rfl, h1, h2, h3, hb⟩
      (try clear hc1 hs1 hc2 hs2)
      have HD10 := Lib.hid hb
      have HB10 := Lib.hid (bgo HB9.out hb)
      obtain ⟨hc1, _, hs1⟩ := cells_of_block ((HB10.out.block _ (cells_of_block HX1.out).2.2).trans HX1.out)
      obtain ⟨hc2, _, hs2⟩ := cells_of_block ((HB10.out.block _ (cells_of_block HX2.out).2.2).trans HX2.out)
      clear hb
      have HH10 := Lib.hid (And.intro h1 (And.intro h2 h3))
      clear h1 h2 h3
      go_wp2_with fail
      have HTU10 := Lib.hid (SlAt.below HTU9.out HD10.out (Nat.le_refl _))
      refine (list_any (turnedL h bs) _ _ (HTU10.out) (by omega)).mono ?_
      rintro e W11 ⟨v, rfl, ho, hb⟩
      obtain ⟨o11, k11, rfl⟩ := owns_slice ho
      have HV11 := Lib.hid (SlAt.of_owns ho)
      clear ho
      (try clear hc1 hs1 hc2 hs2)
      have HD11 := Lib.hid hb
      have HB11 := Lib.hid (bgo HB10.out hb)
      obtain ⟨hc1, _, hs1⟩ := cells_of_block ((HB11.out.block _ (cells_of_block HX1.out).2.2).trans HX1.out)
      obtain ⟨hc2, _, hs2⟩ := cells_of_block ((HB11.out.block _ (cells_of_block HX2.out).2.2).trans HX2.out)
      clear hb
      go_wp2_with fail
      refine (Bounds_any ({ h with readings := h.readings.set J (rh1, rs1, min 50 (re1 + low)) }) _ _ _ _ (turnedL h bs) _ (HH10.out.1.below HD11.out (Nat.le_refl _)) (HH10.out.2.1.below HD11.out (Nat.le_refl _)) (HH10.out.2.2.below HD11.out (Nat.le_refl _)) HV11.out).mono ?_
      rintro e W12 ⟨v, rfl, hv, hb⟩
      rw [HP.out.2.1]
      rw [HP.out.2.2.2.2.1] at hv
      obtain ⟨o12, k12, rfl⟩ := SlAt.open hv
      have HV12 := Lib.hid hv
      clear hv
      (try clear hc1 hs1 hc2 hs2)
      have HD12 := Lib.hid hb
      have HB12 := Lib.hid (bgo HB11.out hb)
      obtain ⟨hc1, _, hs1⟩ := cells_of_block ((HB12.out.block _ (cells_of_block HX1.out).2.2).trans HX1.out)
      obtain ⟨hc2, _, hs2⟩ := cells_of_block ((HB12.out.block _ (cells_of_block HX2.out).2.2).trans HX2.out)
      clear hb
      go_wp2_with fail
      refine wp_region_rg 6 [] none [(1, Spec.val (iv n1)), (3, Spec.val (iv n2))] (by kernel_rfl) (by kernel_rfl) ?_
      simp only [List.take_succ_cons, List.take_zero, List.drop_succ_cons, List.drop_zero]
      repeat (first | (refine tree_det (by rfl) _ (by rfl) (fun W hW => by go_simp; try rfl) ?_; simp only [Act.put, List.setIfInBounds_toArray, List.set_cons_succ, List.set_cons_zero]) | (refine tree_skip (by rfl) (by rfl) ?_; simp only [Act.put, List.setIfInBounds_toArray, List.set_cons_succ, List.set_cons_zero]))
      refine tree_val _ (by rfl) (by rfl) 44 _ (fun W hW => by go_simp; try rfl) (fun W hE hF => by exact by have := needed_any h _ _ _ W (SlAt.below (HW0.out.below HB12.out (Nat.le_refl _)) (Ext.below (show Ext [] W12 W from hE)) (Nat.le_refl _)) (SlAt.below (HT0.out.below HB12.out (Nat.le_refl _)) (Ext.below (show Ext [] W12 W from hE)) (Nat.le_refl _)) (SlAt.below (HX0.out.below HB12.out (Nat.le_refl _)) (Ext.below (show Ext [] W12 W from hE)) (Nat.le_refl _)) (by omega) (by omega) (by omega); rw [HP.out.2.2.2.2.2.1] at this; exact this) ?_
      simp only [Act.put, List.setIfInBounds_toArray, List.set_cons_succ, List.set_cons_zero]
      repeat (first | (refine tree_det (by rfl) _ (by rfl) (fun W hW => by go_simp; try rfl) ?_; simp only [Act.put, List.setIfInBounds_toArray, List.set_cons_succ, List.set_cons_zero]) | (refine tree_skip (by rfl) (by rfl) ?_; simp only [Act.put, List.setIfInBounds_toArray, List.set_cons_succ, List.set_cons_zero]))
      refine tree_val _ (by rfl) (by rfl) 44 _ (fun W hW => by go_simp; try rfl) (fun W hE hF => by exact by have := needed_any ({ h with readings := h.readings.set J (rh1, rs1, min 50 (re1 + low)) }) _ _ _ W (SlAt.below (HXW0.out.below HB12.out (Nat.le_refl _)) (Ext.below (show Ext [] W12 W from hE)) (Nat.le_refl _)) (SlAt.below (HT0.out.below HB12.out (Nat.le_refl _)) (Ext.below (show Ext [] W12 W from hE)) (Nat.le_refl _)) (SlAt.below (HXR0.out.below HB12.out (Nat.le_refl _)) (Ext.below (show Ext [] W12 W from hE)) (Nat.le_refl _)) (Nat.le_trans HXL.out.1 (by omega)) (by show h.turns.length ≤ 1000; omega) (Nat.le_trans HXL.out.2 (by omega)); rw [HP.out.2.2.2.2.2.2] at this; exact this) ?_
      simp only [Act.put, List.setIfInBounds_toArray, List.set_cons_succ, List.set_cons_zero]
      repeat (first | (refine tree_det (by rfl) _ (by rfl) (fun W hW => by go_simp; try rfl) ?_; simp only [Act.put, List.setIfInBounds_toArray, List.set_cons_succ, List.set_cons_zero]) | (refine tree_skip (by rfl) (by rfl) ?_; simp only [Act.put, List.setIfInBounds_toArray, List.set_cons_succ, List.set_cons_zero]))
      intro W13 hE hF
      have hb := Ext.below (show Ext [] W12 W13 from hE)
      (try clear hc1 hs1 hc2 hs2)
      have HD13 := Lib.hid hb
      have HB13 := Lib.hid (bgo HB12.out hb)
      obtain ⟨hc1, _, hs1⟩ := cells_of_block ((HB13.out.block _ (cells_of_block HX1.out).2.2).trans HX1.out)
      obtain ⟨hc2, _, hs2⟩ := cells_of_block ((HB13.out.block _ (cells_of_block HX2.out).2.2).trans HX2.out)
      clear hb
      clear hE hF
      go_wp2_with fail
      have HN := narrower_any B1 B2 (.slice o9 B1.length k9) (.slice o12 B2.length k12) W13
        (SlAt.below (SlAt.below (SlAt.below (SlAt.below HV9.out HD10.out (Nat.le_refl _)) HD11.out (Nat.le_refl _)) HD12.out (Nat.le_refl _)) HD13.out (Nat.le_refl _))
        (SlAt.below HV12.out HD13.out (Nat.le_refl _))
      rw [HP.out.2.2.1] at HN
      refine HN.mono ?_
      clear HN
      rintro e W14 ⟨rfl, hb⟩
      (try clear hc1 hs1 hc2 hs2)
      have HD14 := Lib.hid hb
      have HB14 := Lib.hid (bgo HB13.out hb)
      obtain ⟨hc1, _, hs1⟩ := cells_of_block ((HB14.out.block _ (cells_of_block HX1.out).2.2).trans HX1.out)
      obtain ⟨hc2, _, hs2⟩ := cells_of_block ((HB14.out.block _ (cells_of_block HX2.out).2.2).trans HX2.out)
      clear hb
      go_wp2_with fail
      refine (awake_any _).mono ?_
      rintro e W15 ⟨rfl, hb⟩
      (try clear hc1 hs1 hc2 hs2)
      have HD15 := Lib.hid hb
      have HB15 := Lib.hid (bgo HB14.out hb)
      obtain ⟨hc1, _, hs1⟩ := cells_of_block ((HB15.out.block _ (cells_of_block HX1.out).2.2).trans HX1.out)
      obtain ⟨hc2, _, hs2⟩ := cells_of_block ((HB15.out.block _ (cells_of_block HX2.out).2.2).trans HX2.out)
      clear hb
      go_wp2_with fail
      go_returns
      exact ⟨by simp, bgo HBB.out HB15.out⟩

end Go.Proofs.Ytoibfafmnaooaaa

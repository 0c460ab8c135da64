/-
  The walk of CouchWetter: whatever the heap, the truth's number, the turnings by bits, the hour and how much more, it returns true; nothing that was there has turned.
-/
import Derived.WalkKit
import Derived.WalkLawsBesides
import Derived.WalkSpells
import Derived.Outline
import Derived.Handy
import Derived.KernelRfl
import Derived.Lib.Hide
import Derived.Test.YtoibfafmnaooaaaMF
namespace Go.Proofs.Ytoibfafmnaooaaa
open Go.RowKit Go.RG Go.SL Go.Shelf Cou
set_option maxHeartbeats 400000
set_option maxRecDepth 10000

/-- The lesser of two numbers. -/
theorem min_go (ats : Array TypeId) (ty : TypeId) (a b : Int) : Builtin.min_ ats ty #[.int .i64 a, .int .i64 b] = pure (.int .i64 (min a b)) := by
  have h : Builtin.min_ ats ty #[.int .i64 a, .int .i64 b] = pure (.int .i64 (if b < a then b else a)) := rfl
  rw [h]
  have e : (if b < a then b else a) = min a b := by
    by_cases c : b < a
    · rw [if_pos c]; omega
    · rw [if_neg c]; omega
  rw [e]
attribute [local go_sem ↓] min_go

theorem wraps16 (n : Int) (h₀ : 0 ≤ n) (h₁ : n < 2 ^ 16) : IntKind.u16.wrap n = n := IntWalk.u16_in n (by omega)
theorem or16_lt {bs K : Nat} (hb : (bs : Int) ≤ 65535) (hK : K ≤ 9) : bs ||| 2 ^ K < 2 ^ 16 :=
  Nat.or_lt_two_pow (by omega) (by have := Nat.pow_le_pow_right (n := 2) (by omega) hK; omega)
/-- One turning more, by bits. -/
theorem shl_or {bs K : Nat} (hb : (bs : Int) ≤ 65535) (hK : K ≤ 9) : bits BinOp.or IntKind.u16 (bs : Int) (IntKind.u16.wrap (2 ^ min (IntKind.u64.wrap (K : Int)).toNat 16)) = ((bs ||| 2 ^ K : Nat) : Int) := by
  have hp : 2 ^ K ≤ 512 := by have := Nat.pow_le_pow_right (n := 2) (by omega) hK; omega
  rw [IntWalk.u64_in _ (by omega), show min ((K : Int).toNat) 16 = K from by omega]
  have hc : (2 : Int) ^ K = ((2 ^ K : Nat) : Int) := by norm_cast
  rw [hc]
  generalize 2 ^ K = p at *
  rw [wraps16 _ (by omega) (by omega)]
  exact (bits_nat .u16 16 (by decide) wraps16 bs p (by omega) (by omega)).2

theorem ints_set {W : World} {base g cap : Nat} {e : TypeId} {l : List Int} (h : W.ownsRow base e 1 (.slice (some ⟨g, 0, none⟩) l.length cap) l.length (intCells l)) (K : Nat) (x : Int) :
    (W.setCell ⟨g, K, none⟩ (iv x)).ownsRow base e 1 (.slice (some ⟨g, 0, none⟩) (l.set K x).length cap) (l.set K x).length (intCells (l.set K x)) := by
  obtain ⟨h1, ⟨h2, _⟩ | ⟨g', cap', cur, hv, hb, hc, h3, h4, h5, h6⟩⟩ := h
  · cases h2
  · cases hv
    have he : intCells (l.set K x) = (intCells l).set K (iv x) := by simp [intCells, List.map_set]
    refine ⟨by rw [he]; simpa using h1, .inr ⟨g, cap, cur.setIfInBounds K (iv x), by simp, hb, set_block hc _, by simpa using h3, h4, by simpa using h5, ?_⟩⟩
    rw [he, ← h6]
    simp [List.take_set]

theorem owns_ne {W : World} {base s n b : Nat} {e t : TypeId} {v : Value} {xs : List Value} {cs : Array Value} (h : W.ownsRow base e s v n xs) (hb : W.heap[b]? = some (.cells cs t (0, 0))) (hne : e ≠ t) : v.ownBlock ≠ some b := by
  intro hv
  obtain ⟨_, ⟨rfl, _⟩ | ⟨g, c, cur, rfl, _, hg, _⟩⟩ := h
  · cases hv
  · have : g = b := by simpa [Value.ownBlock] using hv
    subst this
    rw [hg] at hb
    simp only [Option.some.injEq, Obj.cells.injEq] at hb
    exact hne hb.2.1

set_option maxHeartbeats 4000000 in
theorem CouchWetter_any (h : HeapD) (wv tv xv' : Value) (wh bs hr mo : Nat) (w : World) (hw : PairsAt w wv h.wet) (ht : IntsAt w tv h.turns) (hx : TriplesAt w xv' h.readings) (hwh : (wh : Int) ≤ 65535) (hbs : (bs : Int) ≤ 65535) (hhr : (hr : Int) ≤ 255) (hmo : (mo : Int) ≤ 255) :
    Calls Try.prog 6 #[hv h wv tv xv', .int .u16 wh, .int .u16 bs, .int .u8 hr, .int .u8 mo] w (PV (.bool true) w) := by
  obtain ⟨ow, cw, rfl⟩ := hw.open
  obtain ⟨ot, ct, rfl⟩ := ht.open
  obtain ⟨ox, cx, rfl⟩ := hx.open
  have HW := Lib.hid hw
  have HT := Lib.hid ht
  have HX := Lib.hid hx
  clear hw ht hx
  have HB0 := Lib.hid (Below.refl (w.alloc (.cells #[.int .i64 h.last, .int .i64 h.size, .int .i64 h.cool, .int .i64 h.die, .int .i64 h.burn, .int .i64 h.start.1, .int .i64 h.start.2, .slice ow h.wet.length cw, .slice ot h.turns.length ct, .slice ox h.readings.length cx] 28)).heap.size (w.alloc (.cells #[.int .i64 h.last, .int .i64 h.size, .int .i64 h.cool, .int .i64 h.die, .int .i64 h.burn, .int .i64 h.start.1, .int .i64 h.start.2, .slice ow h.wet.length cw, .slice ot h.turns.length ct, .slice ox h.readings.length cx] 28)))
  cases hry : readyB h
  case false =>
    have HR := Lib.hid hry
    clear hry
    go_enter Try.func6, Try.ntmps6
    go_wp2_with fail
    refine (ready_any h _ _ _ _ ((HW.out.alloc _).below HB0.out (Nat.le_refl _)) ((HT.out.alloc _).below HB0.out (Nat.le_refl _)) ((HX.out.alloc _).below HB0.out (Nat.le_refl _))).mono ?_
    rw [HR.out]
    rintro e W1 ⟨rfl, hb⟩
    (try clear hcr hsr)
    have HD1 := Lib.hid hb
    have HB1 := Lib.hid (bgo HB0.out hb)
    obtain ⟨hcr, _, hsr⟩ := cells_of_block ((HB1.out.block w.heap.size (by simp)).trans (heap_new0 w _))
    clear hb
    go_wp2_with fail
    refine (awake_any _).mono ?_
    rintro e W2 ⟨rfl, hb⟩
    (try clear hcr hsr)
    have HD2 := Lib.hid hb
    have HB2 := Lib.hid (bgo HB1.out hb)
    obtain ⟨hcr, _, hsr⟩ := cells_of_block ((HB2.out.block w.heap.size (by simp)).trans (heap_new0 w _))
    clear hb
    go_wp2_with fail
    go_returns
    exact ⟨by simp, bgo (bgoAlloc (Below.refl _ _) _) HB2.out⟩
  obtain ⟨hS, hf0, hm100, hl12⟩ := ready_sound hry
  have hw10 : h.wet.length ≤ 10 := by have := hS.wetLen; have := hS.last9; omega
  have hx5 := hS.rdgs
  have hl0 := hS.last0
  have hl9 := hS.last9
  have HR := Lib.hid hry
  have HS := Lib.hid hS
  have hTL : ∀ bs, (turnedL h bs).length ≤ 10 := fun bs => by
    have := ((turns_inc hl0 _).1 (turned_turns (h := h) hl0 bs)).len
    omega
  obtain ⟨_, hM1, _⟩ := manyL_sound hS
  obtain ⟨M, hM⟩ : ∃ M, manyL h = M := ⟨_, rfl⟩
  have HM := Lib.hid hM
  rw [hM] at hM1 hm100
  have hMz : ¬ M = 0 := by omega
  obtain ⟨n, hn⟩ : ∃ n, (wh : Int) % M = n := ⟨_, rfl⟩
  have hn0 : 0 ≤ n := by rw [← hn]; exact Int.emod_nonneg _ (by omega)
  have hn1 : n ≤ 100 := by have := Int.emod_lt_of_pos (wh : Int) (show 0 < M by omega); omega
  obtain ⟨K, hK⟩ : ∃ K : Nat, (hr : Int) % (h.last + 1) = K := Int.eq_ofNat_of_zero_le (Int.emod_nonneg _ (by omega))
  have hKl : (K : Int) ≤ h.last := by have := Int.emod_lt_of_pos (hr : Int) (show 0 < h.last + 1 by omega); omega
  have hnz : ¬ h.last + 1 = 0 := by omega
  obtain ⟨t, ht⟩ : ∃ t, nthT h n = t := ⟨_, rfl⟩
  have hlt : listedT h t = true := by rw [← ht]; exact nthT_listed hS n
  have HT0 := Lib.hid ht
  have htl := (listed_of hS hlt).1
  have hKt : K < t.2.length := by have := hS.wetLen; omega
  have hKw : K < h.wet.length := by omega
  have htl10 : t.2.length ≤ 10 := by omega
  have HTL := Lib.hid htl
  clear hry hS hf0 hM ht htl
  go_enter Try.func6, Try.ntmps6
  go_wp2_with fail
  refine (ready_any h _ _ _ _ ((HW.out.alloc _).below HB0.out (Nat.le_refl _)) ((HT.out.alloc _).below HB0.out (Nat.le_refl _)) ((HX.out.alloc _).below HB0.out (Nat.le_refl _))).mono ?_
  rw [HR.out]
  rintro e W1 ⟨rfl, hb⟩
  (try clear hcr hsr)
  have HD1 := Lib.hid hb
  have HB1 := Lib.hid (bgo HB0.out hb)
  obtain ⟨hcr, _, hsr⟩ := cells_of_block ((HB1.out.block w.heap.size (by simp)).trans (heap_new0 w _))
  clear hb
  go_wp2_with fail
  refine wp_region_rg 8 [] none [(4, Spec.val (iv M)), (6, ⟨fun _ v => ∃ o c, v = .agg #[iv t.1, .slice o t.2.length c], fun _ v Wx => ∃ o c, v = .agg #[iv t.1, .slice o t.2.length c] ∧ Wx.ownsRow W1.heap.size 3 1 (.slice o t.2.length c) t.2.length (intCells t.2)⟩), (7, Spec.block W1.heap.size #[iv 0, .slice none 0 0] 66)] (by kernel_rfl) (by kernel_rfl) ?_
  simp only [List.take_succ_cons, List.take_zero, List.drop_succ_cons, List.drop_zero]
  repeat (first | (refine tree_det (by rfl) _ (by rfl) (fun W hW => by go_simp; (try simp (disch := omega) only [IntWalk.i64_in]); try rfl) ?_; simp only [Act.put, List.setIfInBounds_toArray, List.set_cons_succ, List.set_cons_zero]) | (refine tree_skip (by rfl) (by rfl) ?_; simp only [Act.put, List.setIfInBounds_toArray, List.set_cons_succ, List.set_cons_zero]))
  refine tree_val _ (by rfl) (by rfl) 39 _ (fun W hW => by go_simp; try rfl) (fun W hE hF => by exact by have := Many_any h (.slice ow h.wet.length cw) (.slice ot h.turns.length ct) (.slice ox h.readings.length cx) W ((((HW.out.alloc _).below HB1.out (Nat.le_refl _))).below (Ext.below (show Ext [] W1 W from hE)) (Nat.le_refl _)) HS.out.ranges; rw [HM.out] at this; exact this) ?_
  simp only [Act.put, List.setIfInBounds_toArray, List.set_cons_succ, List.set_cons_zero]
  repeat (first | (refine tree_det (by rfl) _ (by rfl) (fun W hW => by go_simp; (try simp (disch := omega) only [Int.tmod_eq_emod_of_nonneg]); try rfl) ?_; simp only [Act.put, List.setIfInBounds_toArray, List.set_cons_succ, List.set_cons_zero]) | (refine tree_skip (by rfl) (by rfl) ?_; simp only [Act.put, List.setIfInBounds_toArray, List.set_cons_succ, List.set_cons_zero]))
  refine tree_some _ (by rfl) (by rfl) (by exact ⟨_, none, 0, rfl⟩) (fun W hE hF => ?_) (fun v Wa Wb ho hE => ?_) (fun v hv => ?_)
  · have hE' : Ext [] W1 W := hE
    refine does_enter 38 #[hv h (.slice ow h.wet.length cw) (.slice ot h.turns.length ct) (.slice ox h.readings.length cx), iv ((wh : Int) % M)] (by go_simp; try rfl) ?_
    rw [hn]
    refine (Nth_any h _ ot ox h.turns.length ct h.readings.length cx n W ((((HW.out.alloc _).below HB1.out (Nat.le_refl _))).below hE'.below (Nat.le_refl _)) HS.out.ranges hn0 (by omega) (by omega)).mono ?_
    rw [HT0.out]
    rintro e W6 ⟨v, rfl, ho, hb⟩
    obtain ⟨o, c, rfl⟩ := owns_slice ho
    exact ⟨_, rfl, ⟨o, c, rfl⟩, ⟨o, c, rfl, owns_base ho hE'.size⟩, Ext.of_below hb⟩
  · obtain ⟨o, c, hv, h1⟩ := ho
    exact ⟨o, c, hv, owns_ext (Ms := []) h1 hE (by simp)⟩
  obtain ⟨ou, cu, rfl⟩ := hv
  simp only [Act.put, List.setIfInBounds_toArray, List.set_cons_succ, List.set_cons_zero]
  refine tree_block W1.heap.size _ _ (by rfl) (Nat.le_refl _) (by rfl) (by simp) (by simp) (fun W hW => by go_simp; try rfl) (fun bt => ?_)
  simp only [Act.put, List.setIfInBounds_toArray, List.set_cons_succ, List.set_cons_zero]
  intro W2 hE hF
  obtain ⟨b5', hb5, hbB, hblk⟩ := hF _ (List.Mem.head _)
  cases hb5
  obtain ⟨o', c', he, hvt⟩ := hF _ (List.Mem.tail _ (List.Mem.head _))
  cases he
  have hb := Ext.below (show Ext [] W1 W2 from hE)
  (try clear hcr hsr)
  have HD2 := Lib.hid hb
  have HB2 := Lib.hid (bgo HB1.out hb)
  obtain ⟨hcr, _, hsr⟩ := cells_of_block ((HB2.out.block w.heap.size (by simp)).trans (heap_new0 w _))
  clear hb
  obtain ⟨hc5, _, hs5⟩ := cells_of_block hblk
  have HBLK := Lib.hid hblk
  have HVT := Lib.hid hvt
  clear hE hF hblk hvt
  have hz1 : w.heap.size < W1.heap.size := by have := HB1.out.size; simp only [World.size_alloc] at this; omega
  have hne1 : w.heap.size ≠ bt := by omega
  have hne2 : bt ≠ w.heap.size := by omega
  go_wp2_with fail
  refine gworld fun W3 hW3 => ?_
  have hb : Below W1.heap.size W1 W3 := by rw [hW3]; exact bgoSet (bgoSet HD2.out (by show W1.heap.size ≤ bt; omega) _) (by show W1.heap.size ≤ bt; omega) _
  have HTB3 := Lib.hid (show W3.heap[bt]? = some (.cells #[iv t.1, .slice ou t.2.length cu] 66 (0, 0)) from by rw [hW3]; exact set_block (set_block HBLK.out _) _)
  have hnt := owns_ne HVT.out HBLK.out (by decide)
  have HVT3 : Hid (W3.ownsRow W1.heap.size 3 1 (.slice ou t.2.length cu) t.2.length (intCells t.2)) := Lib.hid (by
    rw [hW3]
    exact owns_ext' (owns_ext' HVT.out (ext_set _ _ _) (by simpa using hnt)) (ext_set _ _ _) (by simpa using hnt))
  clear hW3 hc5 hs5 HBLK HVT hnt
  (try clear hcr hsr)
  have HD3 := Lib.hid hb
  have HB3 := Lib.hid (bgo HB1.out hb)
  obtain ⟨hcr, _, hsr⟩ := cells_of_block ((HB3.out.block w.heap.size (by simp)).trans (heap_new0 w _))
  clear hb
  obtain ⟨hct, _, hst⟩ := cells_of_block HTB3.out
  rw [hK]
  refine wp_region_rg 7 [] none [(4, ⟨fun _ v => ∃ o c, v = .slice o t.2.length c, fun _ v Wx => Wx.ownsRow W3.heap.size 3 1 v t.2.length (intCells t.2)⟩), (6, Spec.block W3.heap.size #[iv 0, .slice none 0 0] 66)] (by kernel_rfl) (by kernel_rfl) ?_
  simp only [List.take_succ_cons, List.take_zero, List.drop_succ_cons, List.drop_zero]
  repeat (first | (refine tree_det (by rfl) _ (by rfl) (fun W hW => by go_simp; try rfl) ?_; simp only [Act.put, List.setIfInBounds_toArray, List.set_cons_succ, List.set_cons_zero]) | (refine tree_skip (by rfl) (by rfl) ?_; simp only [Act.put, List.setIfInBounds_toArray, List.set_cons_succ, List.set_cons_zero]))
  refine tree_some _ (by rfl) (by rfl) (by exact ⟨.slice none (t.2).length 0, none, 0, rfl⟩) (fun W hE hF => ?_) (fun v Wa Wb ho hE => owns_ext (Ms := []) ho hE (by simp)) (fun v hv => ?_)
  · have hE' : Ext [] W3 W := hE
    refine does_enter 22 #[.slice ou t.2.length cu] (by go_simp; try rfl) ?_
    refine (list_any (t.2) _ W ((SlAt.of_owns HVT3.out).below hE'.below (Nat.le_refl _)) (by omega)).mono ?_
    rintro e W6 ⟨v, rfl, ho, hb⟩
    exact ⟨v, rfl, owns_slice ho, owns_base ho hE'.size, Ext.of_below hb⟩
  obtain ⟨og, cg, rfl⟩ := hv
  simp only [Act.put, List.setIfInBounds_toArray, List.set_cons_succ, List.set_cons_zero]
  repeat (first | (refine tree_det (by rfl) _ (by rfl) (fun W hW => by go_simp; try rfl) ?_; simp only [Act.put, List.setIfInBounds_toArray, List.set_cons_succ, List.set_cons_zero]) | (refine tree_skip (by rfl) (by rfl) ?_; simp only [Act.put, List.setIfInBounds_toArray, List.set_cons_succ, List.set_cons_zero]))
  refine tree_block W3.heap.size _ _ (by rfl) (Nat.le_refl _) (by rfl) (by simp) (by simp) (fun W hW => by go_simp; try rfl) (fun bu => ?_)
  simp only [Act.put, List.setIfInBounds_toArray, List.set_cons_succ, List.set_cons_zero]
  repeat (first | (refine tree_det (by rfl) _ (by rfl) (fun W hW => by go_simp; try rfl) ?_; simp only [Act.put, List.setIfInBounds_toArray, List.set_cons_succ, List.set_cons_zero]) | (refine tree_skip (by rfl) (by rfl) ?_; simp only [Act.put, List.setIfInBounds_toArray, List.set_cons_succ, List.set_cons_zero]))
  intro W4 hE hF
  obtain ⟨b5', hb5, hbU, hblk⟩ := hF _ (List.Mem.head _)
  cases hb5
  have hvg : W4.ownsRow W3.heap.size 3 1 (.slice og t.2.length cg) t.2.length (intCells t.2) := hF _ (List.Mem.tail _ (List.Mem.head _))
  have hb := Ext.below (show Ext [] W3 W4 from hE)
  have HD4 := Lib.hid hb
  obtain ⟨hcr, _, hsr'⟩ := cells_of_block (((bgo HB3.out hb).block w.heap.size (by simp)).trans (heap_new0 w _))
  obtain ⟨hc5, _, hs5⟩ := cells_of_block hblk
  have hne3 : w.heap.size ≠ bu := by omega
  have hne4 : bu ≠ w.heap.size := by omega
  have hne5 : bt ≠ bu := by omega
  have hne6 : bu ≠ bt := by omega
  have HBLK := Lib.hid hblk
  have HVG := Lib.hid hvg
  clear hE hF hblk hvg hb hct
  obtain ⟨hct, _, hst'⟩ := cells_of_block ((HD4.out.block _ hst).trans HTB3.out)
  go_wp2_with fail
  refine gworld fun W5 hW5 => ?_
  have hb : Below W3.heap.size W3 W5 := by rw [hW5]; exact bgoSet (bgoSet HD4.out (by show W3.heap.size ≤ bu; omega) _) (by show W3.heap.size ≤ bu; omega) _
  have HUB5 := Lib.hid (show W5.heap[bu]? = some (.cells #[iv t.1, .slice og t.2.length cg] 66 (0, 0)) from by rw [hW5]; exact set_block (set_block HBLK.out _) _)
  have hng := owns_ne HVG.out HBLK.out (by decide)
  have HVG5 : Hid (W5.ownsRow W3.heap.size 3 1 (.slice og t.2.length cg) t.2.length (intCells t.2)) := Lib.hid (by
    rw [hW5]
    exact owns_ext' (owns_ext' HVG.out (ext_set _ _ _) (by simpa using hng)) (ext_set _ _ _) (by simpa using hng))
  clear hW5 hc5 hs5 HBLK HVG hng HD4 hct hst' hsr'
  (try clear hcr hsr)
  have HD5 := Lib.hid hb
  have HB5 := Lib.hid (bgo HB3.out hb)
  obtain ⟨hcr, _, hsr⟩ := cells_of_block ((HB5.out.block w.heap.size (by simp)).trans (heap_new0 w _))
  clear hb
  have HTB5 := Lib.hid ((HD5.out.block _ hst).trans HTB3.out)
  have HVT5 : Hid (W5.ownsRow W1.heap.size 3 1 (.slice ou t.2.length cu) t.2.length (intCells t.2)) := Lib.hid (owns_ext' (Ms := []) HVT3.out (Ext.of_below HD5.out) (by simp))
  obtain ⟨g, hog⟩ : ∃ g, og = some ⟨g, 0, none⟩ := by
    obtain ⟨_, ⟨_, h2⟩ | ⟨g, cg', cur, hv, _⟩⟩ := HVG5.out
    · omega
    · cases hv; exact ⟨g, rfl⟩
  subst hog
  obtain ⟨hg3, hg5⟩ : W3.heap.size ≤ g ∧ g < W5.heap.size := by
    obtain ⟨_, ⟨_, h2⟩ | ⟨g, cg', cur, hv, k1, k2, _⟩⟩ := HVG5.out
    · omega
    · cases hv; exact ⟨k1, (Array.getElem?_eq_some_iff.1 k2).1⟩
  obtain ⟨bw, offw, hbwe, hbw, d1, d2⟩ := PairsAt.cell ((HW.out.alloc _).below HB5.out (Nat.le_refl _)) hKw
  subst hbwe
  obtain ⟨bq, offq, hbqe, hbq, d3⟩ := IntsAt.cell (SlAt.of_owns HVT5.out) hKt
  subst hbqe
  have hwk := HS.out.wet _ (List.getElem_mem hKw)
  have htk := (listed_of HS.out hlt).2.2
  have htk2 := htk.2.2 _ (List.getElem_mem hKt)
  have hst2 := HS.out.start2
  have hst0 := HS.out.start0
  have HWK := Lib.hid (show (h.wet.getD K (0, 0)) = h.wet[K] ∧ t.2.getD K 0 = t.2[K] from ⟨getD_lt hKw, getD_lt hKt⟩)
  generalize h.wet[K] = rk at *
  generalize t.2[K] = tk at *
  obtain ⟨wl, wh2⟩ := rk
  obtain ⟨hct, _, hst5⟩ := cells_of_block HTB5.out
  obtain ⟨hcu, _, hsu5⟩ := cells_of_block HUB5.out
  have ht1a := htk.1
  have ht1b := htk.2.1
  clear htk
  obtain ⟨D, hD⟩ : ∃ D, (mo : Int) % 4 = D := ⟨_, rfl⟩
  have hD0 : 0 ≤ D := by omega
  have hD3 : D ≤ 3 := by omega
  refine wp_region_rg 20 [] none [] (by kernel_rfl) (by kernel_rfl) ?_
  simp only [List.take_succ_cons, List.take_zero, List.drop_succ_cons, List.drop_zero]
  repeat (first | (refine tree_det (by rfl) _ (by rfl) (fun W hW => by go_simp; (try simp (disch := omega) only [Int.tmod_eq_emod_of_nonneg]); try rfl) ?_; simp only [Act.put, List.setIfInBounds_toArray, List.set_cons_succ, List.set_cons_zero]) | (refine tree_skip (by rfl) (by rfl) ?_; simp only [Act.put, List.setIfInBounds_toArray, List.set_cons_succ, List.set_cons_zero]))
  intro W6 hE hF
  have hE6 : Ext [] W5 W6 := hE
  have hb := hE6.below
  have HUB6 := Lib.hid ((hE6.block _ hsu5 (by simp)).trans HUB5.out)
  have HVG6 : Hid (W6.ownsRow W3.heap.size 3 1 (.slice (some ⟨g, 0, none⟩) t.2.length cg) t.2.length (intCells t.2)) := Lib.hid (owns_ext' (Ms := []) HVG5.out hE6 (by simp))
  have hg6 := hE6.size
  clear hE hF hE6 hct hcu d1 d2 d3
  (try clear hcr hsr)
  have HD6 := Lib.hid hb
  have HB6 := Lib.hid (bgo HB5.out hb)
  obtain ⟨hcr, _, hsr⟩ := cells_of_block ((HB6.out.block w.heap.size (by simp)).trans (heap_new0 w _))
  clear hb
  obtain ⟨hct, _, hst6⟩ := cells_of_block ((HD6.out.block _ hst5).trans HTB5.out)
  obtain ⟨hcu, _, hsu6⟩ := cells_of_block HUB6.out
  obtain ⟨bq2, offq2, hbq2, _, d4⟩ := IntsAt.cell (SlAt.of_owns HVG6.out) hKt
  cases hbq2
  rw [Nat.zero_add] at d4
  have hgu := owns_ne HVG6.out HUB6.out (by decide)
  have hgu1 : g ≠ bu := fun e => hgu (by rw [e]; rfl)
  have hgu2 : bu ≠ g := fun e => hgu1 e.symm
  have hgt1 : g ≠ bt := by omega
  have hgt2 : bt ≠ g := by omega
  have hgw1 : g ≠ w.heap.size := by omega
  have hgw2 : w.heap.size ≠ g := by omega
  clear hgu
  obtain ⟨hfg, hsg⟩ : (∀ i, W6.frozen? ⟨g, i, none⟩ = false) ∧ g < W6.heap.size := by
    obtain ⟨_, ⟨h1, _⟩ | ⟨g', cg', cur, hv, _, k2, _⟩⟩ := HVG6.out
    · cases h1
    · cases hv
      exact (cells_of_block k2).2
  go_wp2_with fail
  refine gcallsW fun W7 hW7 => ?_
  obtain ⟨x, hx⟩ : ∃ x, min wh2 (tk + D) = x := ⟨_, rfl⟩
  obtain ⟨s2, hs2⟩ : ∃ s2, min h.start.2 (t.1 + D) = s2 := ⟨_, rfl⟩
  obtain ⟨u2, hu2⟩ : ∃ u2, t.2.set K x = u2 := ⟨_, rfl⟩
  have hul : u2.length = t.2.length := by rw [← hu2]; simp
  rw [hx, hs2] at hW7
  have hb : Below W3.heap.size W3 W7 := by rw [hW7]; exact bgoAlloc (bgoSet (bgo HD5.out HD6.out) (by show W3.heap.size ≤ g; omega) _) _
  have HUB7 : Hid (W7.heap[bu]? = some (.cells #[iv t.1, .slice (some ⟨g, 0, none⟩) u2.length cg] 66 (0, 0))) := Lib.hid (by
    rw [hW7, hul]
    exact (Below.heap_alloc _ _ _ (by simp only [World.size_setCell]; exact hsu6)).trans ((Below.heap_setCell _ _ _ _ (by show bu ≠ g; exact hgu2)).trans HUB6.out))
  have HVB7 : Hid (W7.heap[W6.heap.size]? = some (.cells #[iv s2, .slice (some ⟨bq, offq, none⟩) t.2.length cu] 66 (0, 0))) := Lib.hid (by
    rw [hW7]
    have := heap_new0 (W6.setCell ⟨g, K, none⟩ (iv x)) (.cells #[iv s2, .slice (some ⟨bq, offq, none⟩) t.2.length cu] 66)
    simpa only [World.size_setCell] using this)
  have HUI7 : Hid (IntsAt W7 (.slice (some ⟨g, 0, none⟩) u2.length cg) u2) := Lib.hid (by
    rw [hW7]
    have := ints_set HVG6.out K x
    rw [hu2] at this
    exact SlAt.alloc (SlAt.of_owns this) _)
  have HTI7 : Hid (IntsAt W7 (.slice (some ⟨bq, offq, none⟩) t.2.length cu) t.2) := Lib.hid (SlAt.of_owns (owns_ext' (Ms := []) HVT3.out (Ext.of_below hb) (by simp)))
  have HTB7 := Lib.hid ((hb.block _ (cells_of_block HTB3.out).2.2).trans HTB3.out)
  obtain ⟨P1, hP1⟩ : ∃ P, P = playOut h t (turnedL h bs) := ⟨_, rfl⟩
  obtain ⟨P2, hP2⟩ : ∃ P, P = playOut h (t.1, u2) (turnedL h bs) := ⟨_, rfl⟩
  obtain ⟨P3, hP3⟩ : ∃ P, P = playOut h (s2, t.2) (turnedL h bs) := ⟨_, rfl⟩
  obtain ⟨P4, hP4⟩ : ∃ P, P = playOut h t (turnedL h (bs ||| 2 ^ K)) := ⟨_, rfl⟩
  obtain ⟨⟨e1, e2, e3, e4⟩, ⟨l1, l2, l3, l4⟩, hrel⟩ := wetter_plain HS.out hlt bs K hKl hD0 (u := (t.1, u2)) (v := (s2, t.2)) (by rw [HWK.out.1, HWK.out.2, ← hu2, ← hx]) (by rw [← hs2]) hP1 hP2 hP3 hP4
  have HP1 := Lib.hid (And.intro hP1.symm e1)
  have HP2 := Lib.hid (And.intro hP2.symm e2)
  have HP3 := Lib.hid (And.intro hP3.symm e3)
  have HP4 := Lib.hid (And.intro hP4.symm e4)
  have HRL := Lib.hid hrel
  have HUL := Lib.hid hul
  have HB2 : Hid (((bs ||| 2 ^ K : Nat) : Int) ≤ 65535) := Lib.hid (by have := or16_lt hbs (K := K) (by omega); omega)
  have HSO := Lib.hid (shl_or hbs (K := K) (by omega))
  have hul10 : u2.length ≤ 10 := by omega
  have hT1 := hTL bs
  have hT2 := hTL (bs ||| 2 ^ K)
  clear hW7 hx hs2 hu2 hul hP1 hP2 hP3 hP4 e1 e2 e3 e4 hrel hgu1 hgu2 hgt1 hgt2 hgw1 hgw2 hfg hsg d4 hct hcu hst6 hsu6 HUB6 HVG6 hTL
  (try clear hcr hsr)
  have HD7 := Lib.hid hb
  have HB7 := Lib.hid (bgo HB3.out hb)
  obtain ⟨hcr, _, hsr⟩ := cells_of_block ((HB7.out.block w.heap.size (by simp)).trans (heap_new0 w _))
  clear hb
  refine (turned_any h _ _ _ bs _ hl0 hl9 hbs).mono ?_
  rintro e W8 ⟨v, rfl, hv, hb⟩
  obtain ⟨o8, k8, rfl⟩ := hv.open
  have HV8 := Lib.hid hv
  clear hv
  (try clear hcr hsr)
  have HD8 := Lib.hid hb
  have HB8 := Lib.hid (bgo HB7.out hb)
  obtain ⟨hcr, _, hsr⟩ := cells_of_block ((HB8.out.block w.heap.size (by simp)).trans (heap_new0 w _))
  clear hb
  have HTB8 := Lib.hid ((HD8.out.block _ (cells_of_block HTB7.out).2.2).trans HTB7.out)
  have HUB8 := Lib.hid ((HD8.out.block _ (cells_of_block HUB7.out).2.2).trans HUB7.out)
  have HVB8 := Lib.hid ((HD8.out.block _ (cells_of_block HVB7.out).2.2).trans HVB7.out)
  have HTI8 := Lib.hid (SlAt.below HTI7.out HD8.out (Nat.le_refl _))
  have HUI8 := Lib.hid (SlAt.below HUI7.out HD8.out (Nat.le_refl _))
  (try clear hct hst hcu hsu hcv hsv)
  obtain ⟨hct, _, hst⟩ := cells_of_block HTB8.out
  obtain ⟨hcu, _, hsu⟩ := cells_of_block HUB8.out
  obtain ⟨hcv, _, hsv⟩ := cells_of_block HVB8.out
  go_wp2_with fail
  refine wp_region_rg 12 [] none [(1, ⟨fun _ v => ∃ a b c, v = hv (h) a b c, fun _ v Wx => ∃ a b c, v = hv (h) a b c ∧ PairsAt Wx a (h).wet ∧ IntsAt Wx b (h).turns ∧ TriplesAt Wx c (h).readings⟩), (3, ⟨fun _ v => ∃ x, v = .agg #[iv (t.1), x], fun _ v Wx => ∃ x, v = .agg #[iv (t.1), x] ∧ IntsAt Wx x (t.2)⟩), (5, ⟨fun _ v => ∃ o c, v = .slice o (turnedL h bs).length c, fun _ v Wx => IntsAt Wx v (turnedL h bs)⟩), (6, ⟨fun _ v => ∃ o c, v = .tuple #[.slice o (P1).length c, iv 0], fun _ v Wx => ∃ o c, v = .tuple #[.slice o (P1).length c, iv 0] ∧ IntsAt Wx (.slice o (P1).length c) (P1)⟩)] (by kernel_rfl) (by kernel_rfl) ?_
  simp only [List.take_succ_cons, List.take_zero, List.drop_succ_cons, List.drop_zero]
  repeat (first | (refine tree_det (by rfl) _ (by rfl) (fun W hW => by go_simp; try rfl) ?_; simp only [Act.put, List.setIfInBounds_toArray, List.set_cons_succ, List.set_cons_zero]) | (refine tree_skip (by rfl) (by rfl) ?_; simp only [Act.put, List.setIfInBounds_toArray, List.set_cons_succ, List.set_cons_zero]))
  refine tree_some _ (by rfl) (by rfl) (by exact ⟨_, undef, undef, undef, rfl⟩) (fun W hE hF => ?_) (fun v Wa Wb ho hE => ?_) (fun v hv => ?_)
  · have hE' : Ext [] W8 W := hE
    refine does_enter 21 #[hv h (.slice (some ⟨bw, offw, none⟩) h.wet.length cw) (.slice ot h.turns.length ct) (.slice ox h.readings.length cx)] (by go_simp; try first | rfl | exact ⟨rfl, rfl, rfl, rfl, rfl, rfl, rfl⟩) ?_
    refine (Heap_any h _ _ _ W ((((HW.out.alloc _).below HB8.out (Nat.le_refl _))).below hE'.below (Nat.le_refl _)) ((((HT.out.alloc _).below HB8.out (Nat.le_refl _))).below hE'.below (Nat.le_refl _)) ((((HX.out.alloc _).below HB8.out (Nat.le_refl _))).below hE'.below (Nat.le_refl _)) (by omega) (by omega) (by omega)).mono ?_
    rintro e W' ⟨a, b, c, rfl, h1, h2, h3, hb⟩
    exact ⟨_, rfl, ⟨a, b, c, rfl⟩, ⟨a, b, c, rfl, h1, h2, h3⟩, Ext.of_below hb⟩
  · obtain ⟨a, b, c, hv, h1, h2, h3⟩ := ho
    have hB := Ext.below (show Ext [] Wa Wb from hE)
    exact ⟨a, b, c, hv, h1.below hB (Nat.le_refl _), h2.below hB (Nat.le_refl _), h3.below hB (Nat.le_refl _)⟩
  obtain ⟨a9, b9, c9, rfl⟩ := hv
  simp only [Act.put, List.setIfInBounds_toArray, List.set_cons_succ, List.set_cons_zero]
  repeat (first | (refine tree_det (by rfl) _ (by rfl) (fun W hW => by go_simp; try rfl) ?_; simp only [Act.put, List.setIfInBounds_toArray, List.set_cons_succ, List.set_cons_zero]) | (refine tree_skip (by rfl) (by rfl) ?_; simp only [Act.put, List.setIfInBounds_toArray, List.set_cons_succ, List.set_cons_zero]))
  refine tree_some _ (by rfl) (by rfl) (by exact ⟨_, undef, rfl⟩) (fun W hE hF => ?_) (fun v Wa Wb ho hE => ?_) (fun v hv => ?_)
  · have hE' : Ext [] W8 W := hE
    refine does_enter 41 #[.agg #[iv (t.1), .slice (some ⟨bq, offq, none⟩) t.2.length cu]] (by go_simp; try rfl) ?_
    refine (Truth_any (t.1, t.2) _ W (SlAt.below HTI8.out hE'.below (Nat.le_refl _)) (by simp only; omega)).mono ?_
    rintro e W' ⟨x, rfl, h1, hb⟩
    exact ⟨_, rfl, ⟨x, rfl⟩, ⟨x, rfl, h1⟩, Ext.of_below hb⟩
  · obtain ⟨x, hv, h1⟩ := ho
    exact ⟨x, hv, h1.below (Ext.below (show Ext [] Wa Wb from hE)) (Nat.le_refl _)⟩
  obtain ⟨x9, rfl⟩ := hv
  simp only [Act.put, List.setIfInBounds_toArray, List.set_cons_succ, List.set_cons_zero]
  repeat (first | (refine tree_det (by rfl) _ (by rfl) (fun W hW => by go_simp; try rfl) ?_; simp only [Act.put, List.setIfInBounds_toArray, List.set_cons_succ, List.set_cons_zero]) | (refine tree_skip (by rfl) (by rfl) ?_; simp only [Act.put, List.setIfInBounds_toArray, List.set_cons_succ, List.set_cons_zero]))
  refine tree_some _ (by rfl) (by rfl) (by exact ⟨.slice none (turnedL h bs).length 0, none, 0, rfl⟩) (fun W hE hF => ?_) (fun v Wa Wb ho hE => SlAt.below ho (Ext.below (show Ext [] Wa Wb from hE)) (Nat.le_refl _)) (fun v hv => ?_)
  · have hE' : Ext [] W8 W := hE
    refine does_enter 22 #[.slice o8 (turnedL h bs).length k8] (by go_simp; try rfl) ?_
    refine (list_any (turnedL h bs) _ W (SlAt.below HV8.out hE'.below (Nat.le_refl _)) (by omega)).mono ?_
    rintro e W6 ⟨v, rfl, ho, hb⟩
    exact ⟨v, rfl, owns_slice ho, SlAt.of_owns ho, Ext.of_below hb⟩
  obtain ⟨o9, k9, rfl⟩ := hv
  simp only [Act.put, List.setIfInBounds_toArray, List.set_cons_succ, List.set_cons_zero]
  refine tree_some _ (by rfl) (by rfl) (by exact ⟨_, none, 0, rfl⟩) (fun W hE hF => ?_) (fun v Wa Wb ho hE => ?_) (fun v hv => ?_)
  · have htr : IntsAt W (.slice o9 (turnedL h bs).length k9) (turnedL h bs) := hF _ (List.Mem.head _) (by kernel_rfl)
    obtain ⟨u', hu1, hu2⟩ := hF _ (List.Mem.tail _ (List.Mem.head _)) (by kernel_rfl)
    obtain ⟨a', b', c', he, h1, h2, h3⟩ := hF _ (List.Mem.tail _ (List.Mem.tail _ (List.Mem.head _))) (by kernel_rfl)
    obtain ⟨rfl, rfl, rfl⟩ := hv_inj he
    cases hu1
    refine does_enter 40 #[hv h a9 b9 c9, .agg #[iv (t.1), x9], .slice o9 (turnedL h bs).length k9] (by go_simp; try rfl) ?_
    refine (Play_any h _ _ _ _ _ (t.1) (t.2) (turnedL h bs) W h1 h2 h3 hu2 htr).mono ?_
    rintro e W' ⟨v, rfl, hv, hb⟩
    have hv' : W'.ownsRow W.heap.size 3 1 v (P1).length (intCells (P1)) := by rw [← HP1.out.1]; exact hv
    obtain ⟨o, k, rfl⟩ := owns_slice hv'
    refine ⟨.tuple #[.slice o (P1).length k, iv 0], by rw [HP1.out.2], ⟨o, k, rfl⟩, ⟨o, k, rfl, SlAt.of_owns hv'⟩, Ext.of_below hb⟩
  · obtain ⟨o, k, hv, h1⟩ := ho
    exact ⟨o, k, hv, h1.below (Ext.below (show Ext [] Wa Wb from hE)) (Nat.le_refl _)⟩
  obtain ⟨r9, q9, rfl⟩ := hv
  simp only [Act.put, List.setIfInBounds_toArray, List.set_cons_succ, List.set_cons_zero]
  repeat (first | (refine tree_det (by rfl) _ (by rfl) (fun W hW => by go_simp; try rfl) ?_; simp only [Act.put, List.setIfInBounds_toArray, List.set_cons_succ, List.set_cons_zero]) | (refine tree_skip (by rfl) (by rfl) ?_; simp only [Act.put, List.setIfInBounds_toArray, List.set_cons_succ, List.set_cons_zero]))
  intro W9 hE hF
  obtain ⟨o', k', he, hv4⟩ := hF _ (List.Mem.head _)
  cases he
  have HV9 := Lib.hid hv4
  have hb := Ext.below (show Ext [] W8 W9 from hE)
  (try clear hcr hsr)
  have HD9 := Lib.hid hb
  have HB9 := Lib.hid (bgo HB8.out hb)
  obtain ⟨hcr, _, hsr⟩ := cells_of_block ((HB9.out.block w.heap.size (by simp)).trans (heap_new0 w _))
  clear hb
  clear hE hF hv4
  have HTB9 := Lib.hid ((HD9.out.block _ (cells_of_block HTB8.out).2.2).trans HTB8.out)
  have HUB9 := Lib.hid ((HD9.out.block _ (cells_of_block HUB8.out).2.2).trans HUB8.out)
  have HVB9 := Lib.hid ((HD9.out.block _ (cells_of_block HVB8.out).2.2).trans HVB8.out)
  have HTI9 := Lib.hid (SlAt.below HTI8.out HD9.out (Nat.le_refl _))
  have HUI9 := Lib.hid (SlAt.below HUI8.out HD9.out (Nat.le_refl _))
  (try clear hct hst hcu hsu hcv hsv)
  obtain ⟨hct, _, hst⟩ := cells_of_block HTB9.out
  obtain ⟨hcu, _, hsu⟩ := cells_of_block HUB9.out
  obtain ⟨hcv, _, hsv⟩ := cells_of_block HVB9.out
  have HVT9 := Lib.hid (SlAt.below HV8.out HD9.out (Nat.le_refl _))
  go_wp2_with fail
  refine wp_region_rg 12 [] none [(1, ⟨fun _ v => ∃ a b c, v = hv (h) a b c, fun _ v Wx => ∃ a b c, v = hv (h) a b c ∧ PairsAt Wx a (h).wet ∧ IntsAt Wx b (h).turns ∧ TriplesAt Wx c (h).readings⟩), (3, ⟨fun _ v => ∃ x, v = .agg #[iv (t.1), x], fun _ v Wx => ∃ x, v = .agg #[iv (t.1), x] ∧ IntsAt Wx x (u2)⟩), (5, ⟨fun _ v => ∃ o c, v = .slice o (turnedL h bs).length c, fun _ v Wx => IntsAt Wx v (turnedL h bs)⟩), (6, ⟨fun _ v => ∃ o c, v = .tuple #[.slice o (P2).length c, iv 0], fun _ v Wx => ∃ o c, v = .tuple #[.slice o (P2).length c, iv 0] ∧ IntsAt Wx (.slice o (P2).length c) (P2)⟩)] (by kernel_rfl) (by kernel_rfl) ?_
  simp only [List.take_succ_cons, List.take_zero, List.drop_succ_cons, List.drop_zero]
  repeat (first | (refine tree_det (by rfl) _ (by rfl) (fun W hW => by go_simp; try rfl) ?_; simp only [Act.put, List.setIfInBounds_toArray, List.set_cons_succ, List.set_cons_zero]) | (refine tree_skip (by rfl) (by rfl) ?_; simp only [Act.put, List.setIfInBounds_toArray, List.set_cons_succ, List.set_cons_zero]))
  refine tree_some _ (by rfl) (by rfl) (by exact ⟨_, undef, undef, undef, rfl⟩) (fun W hE hF => ?_) (fun v Wa Wb ho hE => ?_) (fun v hv => ?_)
  · have hE' : Ext [] W9 W := hE
    refine does_enter 21 #[hv h (.slice (some ⟨bw, offw, none⟩) h.wet.length cw) (.slice ot h.turns.length ct) (.slice ox h.readings.length cx)] (by go_simp; try first | rfl | exact ⟨rfl, rfl, rfl, rfl, rfl, rfl, rfl⟩) ?_
    refine (Heap_any h _ _ _ W ((((HW.out.alloc _).below HB9.out (Nat.le_refl _))).below hE'.below (Nat.le_refl _)) ((((HT.out.alloc _).below HB9.out (Nat.le_refl _))).below hE'.below (Nat.le_refl _)) ((((HX.out.alloc _).below HB9.out (Nat.le_refl _))).below hE'.below (Nat.le_refl _)) (by omega) (by omega) (by omega)).mono ?_
    rintro e W' ⟨a, b, c, rfl, h1, h2, h3, hb⟩
    exact ⟨_, rfl, ⟨a, b, c, rfl⟩, ⟨a, b, c, rfl, h1, h2, h3⟩, Ext.of_below hb⟩
  · obtain ⟨a, b, c, hv, h1, h2, h3⟩ := ho
    have hB := Ext.below (show Ext [] Wa Wb from hE)
    exact ⟨a, b, c, hv, h1.below hB (Nat.le_refl _), h2.below hB (Nat.le_refl _), h3.below hB (Nat.le_refl _)⟩
  obtain ⟨a10, b10, c10, rfl⟩ := hv
  simp only [Act.put, List.setIfInBounds_toArray, List.set_cons_succ, List.set_cons_zero]
  repeat (first | (refine tree_det (by rfl) _ (by rfl) (fun W hW => by go_simp; try rfl) ?_; simp only [Act.put, List.setIfInBounds_toArray, List.set_cons_succ, List.set_cons_zero]) | (refine tree_skip (by rfl) (by rfl) ?_; simp only [Act.put, List.setIfInBounds_toArray, List.set_cons_succ, List.set_cons_zero]))
  refine tree_some _ (by rfl) (by rfl) (by exact ⟨_, undef, rfl⟩) (fun W hE hF => ?_) (fun v Wa Wb ho hE => ?_) (fun v hv => ?_)
  · have hE' : Ext [] W9 W := hE
    refine does_enter 41 #[.agg #[iv (t.1), .slice (some ⟨g, 0, none⟩) u2.length cg]] (by go_simp; try rfl) ?_
    refine (Truth_any (t.1, u2) _ W (SlAt.below HUI9.out hE'.below (Nat.le_refl _)) (by simp only; omega)).mono ?_
    rintro e W' ⟨x, rfl, h1, hb⟩
    exact ⟨_, rfl, ⟨x, rfl⟩, ⟨x, rfl, h1⟩, Ext.of_below hb⟩
  · obtain ⟨x, hv, h1⟩ := ho
    exact ⟨x, hv, h1.below (Ext.below (show Ext [] Wa Wb from hE)) (Nat.le_refl _)⟩
  obtain ⟨x10, rfl⟩ := hv
  simp only [Act.put, List.setIfInBounds_toArray, List.set_cons_succ, List.set_cons_zero]
  repeat (first | (refine tree_det (by rfl) _ (by rfl) (fun W hW => by go_simp; try rfl) ?_; simp only [Act.put, List.setIfInBounds_toArray, List.set_cons_succ, List.set_cons_zero]) | (refine tree_skip (by rfl) (by rfl) ?_; simp only [Act.put, List.setIfInBounds_toArray, List.set_cons_succ, List.set_cons_zero]))
  refine tree_some _ (by rfl) (by rfl) (by exact ⟨.slice none (turnedL h bs).length 0, none, 0, rfl⟩) (fun W hE hF => ?_) (fun v Wa Wb ho hE => SlAt.below ho (Ext.below (show Ext [] Wa Wb from hE)) (Nat.le_refl _)) (fun v hv => ?_)
  · have hE' : Ext [] W9 W := hE
    refine does_enter 22 #[.slice o8 (turnedL h bs).length k8] (by go_simp; try rfl) ?_
    refine (list_any (turnedL h bs) _ W (SlAt.below HVT9.out hE'.below (Nat.le_refl _)) (by omega)).mono ?_
    rintro e W6 ⟨v, rfl, ho, hb⟩
    exact ⟨v, rfl, owns_slice ho, SlAt.of_owns ho, Ext.of_below hb⟩
  obtain ⟨o10, k10, rfl⟩ := hv
  simp only [Act.put, List.setIfInBounds_toArray, List.set_cons_succ, List.set_cons_zero]
  refine tree_some _ (by rfl) (by rfl) (by exact ⟨_, none, 0, rfl⟩) (fun W hE hF => ?_) (fun v Wa Wb ho hE => ?_) (fun v hv => ?_)
  · have htr : IntsAt W (.slice o10 (turnedL h bs).length k10) (turnedL h bs) := hF _ (List.Mem.head _) (by kernel_rfl)
    obtain ⟨u', hu1, hu2⟩ := hF _ (List.Mem.tail _ (List.Mem.head _)) (by kernel_rfl)
    obtain ⟨a', b', c', he, h1, h2, h3⟩ := hF _ (List.Mem.tail _ (List.Mem.tail _ (List.Mem.head _))) (by kernel_rfl)
    obtain ⟨rfl, rfl, rfl⟩ := hv_inj he
    cases hu1
    refine does_enter 40 #[hv h a10 b10 c10, .agg #[iv (t.1), x10], .slice o10 (turnedL h bs).length k10] (by go_simp; try rfl) ?_
    refine (Play_any h _ _ _ _ _ (t.1) (u2) (turnedL h bs) W h1 h2 h3 hu2 htr).mono ?_
    rintro e W' ⟨v, rfl, hv, hb⟩
    have hv' : W'.ownsRow W.heap.size 3 1 v (P2).length (intCells (P2)) := by rw [← HP2.out.1]; exact hv
    obtain ⟨o, k, rfl⟩ := owns_slice hv'
    refine ⟨.tuple #[.slice o (P2).length k, iv 0], by rw [HP2.out.2], ⟨o, k, rfl⟩, ⟨o, k, rfl, SlAt.of_owns hv'⟩, Ext.of_below hb⟩
  · obtain ⟨o, k, hv, h1⟩ := ho
    exact ⟨o, k, hv, h1.below (Ext.below (show Ext [] Wa Wb from hE)) (Nat.le_refl _)⟩
  obtain ⟨r10, q10, rfl⟩ := hv
  simp only [Act.put, List.setIfInBounds_toArray, List.set_cons_succ, List.set_cons_zero]
  repeat (first | (refine tree_det (by rfl) _ (by rfl) (fun W hW => by go_simp; try rfl) ?_; simp only [Act.put, List.setIfInBounds_toArray, List.set_cons_succ, List.set_cons_zero]) | (refine tree_skip (by rfl) (by rfl) ?_; simp only [Act.put, List.setIfInBounds_toArray, List.set_cons_succ, List.set_cons_zero]))
  intro W10 hE hF
  obtain ⟨o', k', he, hv4⟩ := hF _ (List.Mem.head _)
  cases he
  have HV10 := Lib.hid hv4
  have hb := Ext.below (show Ext [] W9 W10 from hE)
  (try clear hcr hsr)
  have HD10 := Lib.hid hb
  have HB10 := Lib.hid (bgo HB9.out hb)
  obtain ⟨hcr, _, hsr⟩ := cells_of_block ((HB10.out.block w.heap.size (by simp)).trans (heap_new0 w _))
  clear hb
  clear hE hF hv4
  have HTB10 := Lib.hid ((HD10.out.block _ (cells_of_block HTB9.out).2.2).trans HTB9.out)
  have HUB10 := Lib.hid ((HD10.out.block _ (cells_of_block HUB9.out).2.2).trans HUB9.out)
  have HVB10 := Lib.hid ((HD10.out.block _ (cells_of_block HVB9.out).2.2).trans HVB9.out)
  have HTI10 := Lib.hid (SlAt.below HTI9.out HD10.out (Nat.le_refl _))
  have HUI10 := Lib.hid (SlAt.below HUI9.out HD10.out (Nat.le_refl _))
  (try clear hct hst hcu hsu hcv hsv)
  obtain ⟨hct, _, hst⟩ := cells_of_block HTB10.out
  obtain ⟨hcu, _, hsu⟩ := cells_of_block HUB10.out
  obtain ⟨hcv, _, hsv⟩ := cells_of_block HVB10.out
  have HVT10 := Lib.hid (SlAt.below HVT9.out HD10.out (Nat.le_refl _))
  go_wp2_with fail
  refine wp_region_rg 12 [] none [(1, ⟨fun _ v => ∃ a b c, v = hv (h) a b c, fun _ v Wx => ∃ a b c, v = hv (h) a b c ∧ PairsAt Wx a (h).wet ∧ IntsAt Wx b (h).turns ∧ TriplesAt Wx c (h).readings⟩), (3, ⟨fun _ v => ∃ x, v = .agg #[iv (s2), x], fun _ v Wx => ∃ x, v = .agg #[iv (s2), x] ∧ IntsAt Wx x (t.2)⟩), (5, ⟨fun _ v => ∃ o c, v = .slice o (turnedL h bs).length c, fun _ v Wx => IntsAt Wx v (turnedL h bs)⟩), (6, ⟨fun _ v => ∃ o c, v = .tuple #[.slice o (P3).length c, iv 0], fun _ v Wx => ∃ o c, v = .tuple #[.slice o (P3).length c, iv 0] ∧ IntsAt Wx (.slice o (P3).length c) (P3)⟩)] (by kernel_rfl) (by kernel_rfl) ?_
  simp only [List.take_succ_cons, List.take_zero, List.drop_succ_cons, List.drop_zero]
  repeat (first | (refine tree_det (by rfl) _ (by rfl) (fun W hW => by go_simp; try rfl) ?_; simp only [Act.put, List.setIfInBounds_toArray, List.set_cons_succ, List.set_cons_zero]) | (refine tree_skip (by rfl) (by rfl) ?_; simp only [Act.put, List.setIfInBounds_toArray, List.set_cons_succ, List.set_cons_zero]))
  refine tree_some _ (by rfl) (by rfl) (by exact ⟨_, undef, undef, undef, rfl⟩) (fun W hE hF => ?_) (fun v Wa Wb ho hE => ?_) (fun v hv => ?_)
  · have hE' : Ext [] W10 W := hE
    refine does_enter 21 #[hv h (.slice (some ⟨bw, offw, none⟩) h.wet.length cw) (.slice ot h.turns.length ct) (.slice ox h.readings.length cx)] (by go_simp; try first | rfl | exact ⟨rfl, rfl, rfl, rfl, rfl, rfl, rfl⟩) ?_
    refine (Heap_any h _ _ _ W ((((HW.out.alloc _).below HB10.out (Nat.le_refl _))).below hE'.below (Nat.le_refl _)) ((((HT.out.alloc _).below HB10.out (Nat.le_refl _))).below hE'.below (Nat.le_refl _)) ((((HX.out.alloc _).below HB10.out (Nat.le_refl _))).below hE'.below (Nat.le_refl _)) (by omega) (by omega) (by omega)).mono ?_
    rintro e W' ⟨a, b, c, rfl, h1, h2, h3, hb⟩
    exact ⟨_, rfl, ⟨a, b, c, rfl⟩, ⟨a, b, c, rfl, h1, h2, h3⟩, Ext.of_below hb⟩
  · obtain ⟨a, b, c, hv, h1, h2, h3⟩ := ho
    have hB := Ext.below (show Ext [] Wa Wb from hE)
    exact ⟨a, b, c, hv, h1.below hB (Nat.le_refl _), h2.below hB (Nat.le_refl _), h3.below hB (Nat.le_refl _)⟩
  obtain ⟨a11, b11, c11, rfl⟩ := hv
  simp only [Act.put, List.setIfInBounds_toArray, List.set_cons_succ, List.set_cons_zero]
  repeat (first | (refine tree_det (by rfl) _ (by rfl) (fun W hW => by go_simp; try rfl) ?_; simp only [Act.put, List.setIfInBounds_toArray, List.set_cons_succ, List.set_cons_zero]) | (refine tree_skip (by rfl) (by rfl) ?_; simp only [Act.put, List.setIfInBounds_toArray, List.set_cons_succ, List.set_cons_zero]))
  refine tree_some _ (by rfl) (by rfl) (by exact ⟨_, undef, rfl⟩) (fun W hE hF => ?_) (fun v Wa Wb ho hE => ?_) (fun v hv => ?_)
  · have hE' : Ext [] W10 W := hE
    refine does_enter 41 #[.agg #[iv (s2), .slice (some ⟨bq, offq, none⟩) t.2.length cu]] (by go_simp; try rfl) ?_
    refine (Truth_any (s2, t.2) _ W (SlAt.below HTI10.out hE'.below (Nat.le_refl _)) (by simp only; omega)).mono ?_
    rintro e W' ⟨x, rfl, h1, hb⟩
    exact ⟨_, rfl, ⟨x, rfl⟩, ⟨x, rfl, h1⟩, Ext.of_below hb⟩
  · obtain ⟨x, hv, h1⟩ := ho
    exact ⟨x, hv, h1.below (Ext.below (show Ext [] Wa Wb from hE)) (Nat.le_refl _)⟩
  obtain ⟨x11, rfl⟩ := hv
  simp only [Act.put, List.setIfInBounds_toArray, List.set_cons_succ, List.set_cons_zero]
  repeat (first | (refine tree_det (by rfl) _ (by rfl) (fun W hW => by go_simp; try rfl) ?_; simp only [Act.put, List.setIfInBounds_toArray, List.set_cons_succ, List.set_cons_zero]) | (refine tree_skip (by rfl) (by rfl) ?_; simp only [Act.put, List.setIfInBounds_toArray, List.set_cons_succ, List.set_cons_zero]))
  refine tree_some _ (by rfl) (by rfl) (by exact ⟨.slice none (turnedL h bs).length 0, none, 0, rfl⟩) (fun W hE hF => ?_) (fun v Wa Wb ho hE => SlAt.below ho (Ext.below (show Ext [] Wa Wb from hE)) (Nat.le_refl _)) (fun v hv => ?_)
  · have hE' : Ext [] W10 W := hE
    refine does_enter 22 #[.slice o8 (turnedL h bs).length k8] (by go_simp; try rfl) ?_
    refine (list_any (turnedL h bs) _ W (SlAt.below HVT10.out hE'.below (Nat.le_refl _)) (by omega)).mono ?_
    rintro e W6 ⟨v, rfl, ho, hb⟩
    exact ⟨v, rfl, owns_slice ho, SlAt.of_owns ho, Ext.of_below hb⟩
  obtain ⟨o11, k11, rfl⟩ := hv
  simp only [Act.put, List.setIfInBounds_toArray, List.set_cons_succ, List.set_cons_zero]
  refine tree_some _ (by rfl) (by rfl) (by exact ⟨_, none, 0, rfl⟩) (fun W hE hF => ?_) (fun v Wa Wb ho hE => ?_) (fun v hv => ?_)
  · have htr : IntsAt W (.slice o11 (turnedL h bs).length k11) (turnedL h bs) := hF _ (List.Mem.head _) (by kernel_rfl)
    obtain ⟨u', hu1, hu2⟩ := hF _ (List.Mem.tail _ (List.Mem.head _)) (by kernel_rfl)
    obtain ⟨a', b', c', he, h1, h2, h3⟩ := hF _ (List.Mem.tail _ (List.Mem.tail _ (List.Mem.head _))) (by kernel_rfl)
    obtain ⟨rfl, rfl, rfl⟩ := hv_inj he
    cases hu1
    refine does_enter 40 #[hv h a11 b11 c11, .agg #[iv (s2), x11], .slice o11 (turnedL h bs).length k11] (by go_simp; try rfl) ?_
    refine (Play_any h _ _ _ _ _ (s2) (t.2) (turnedL h bs) W h1 h2 h3 hu2 htr).mono ?_
    rintro e W' ⟨v, rfl, hv, hb⟩
    have hv' : W'.ownsRow W.heap.size 3 1 v (P3).length (intCells (P3)) := by rw [← HP3.out.1]; exact hv
    obtain ⟨o, k, rfl⟩ := owns_slice hv'
    refine ⟨.tuple #[.slice o (P3).length k, iv 0], by rw [HP3.out.2], ⟨o, k, rfl⟩, ⟨o, k, rfl, SlAt.of_owns hv'⟩, Ext.of_below hb⟩
  · obtain ⟨o, k, hv, h1⟩ := ho
    exact ⟨o, k, hv, h1.below (Ext.below (show Ext [] Wa Wb from hE)) (Nat.le_refl _)⟩
  obtain ⟨r11, q11, rfl⟩ := hv
  simp only [Act.put, List.setIfInBounds_toArray, List.set_cons_succ, List.set_cons_zero]
  repeat (first | (refine tree_det (by rfl) _ (by rfl) (fun W hW => by go_simp; try rfl) ?_; simp only [Act.put, List.setIfInBounds_toArray, List.set_cons_succ, List.set_cons_zero]) | (refine tree_skip (by rfl) (by rfl) ?_; simp only [Act.put, List.setIfInBounds_toArray, List.set_cons_succ, List.set_cons_zero]))
  intro W11 hE hF
  obtain ⟨o', k', he, hv4⟩ := hF _ (List.Mem.head _)
  cases he
  have HV11 := Lib.hid hv4
  have hb := Ext.below (show Ext [] W10 W11 from hE)
  (try clear hcr hsr)
  have HD11 := Lib.hid hb
  have HB11 := Lib.hid (bgo HB10.out hb)
  obtain ⟨hcr, _, hsr⟩ := cells_of_block ((HB11.out.block w.heap.size (by simp)).trans (heap_new0 w _))
  clear hb
  clear hE hF hv4
  have HTB11 := Lib.hid ((HD11.out.block _ (cells_of_block HTB10.out).2.2).trans HTB10.out)
  have HUB11 := Lib.hid ((HD11.out.block _ (cells_of_block HUB10.out).2.2).trans HUB10.out)
  have HVB11 := Lib.hid ((HD11.out.block _ (cells_of_block HVB10.out).2.2).trans HVB10.out)
  have HTI11 := Lib.hid (SlAt.below HTI10.out HD11.out (Nat.le_refl _))
  have HUI11 := Lib.hid (SlAt.below HUI10.out HD11.out (Nat.le_refl _))
  (try clear hct hst hcu hsu hcv hsv)
  obtain ⟨hct, _, hst⟩ := cells_of_block HTB11.out
  obtain ⟨hcu, _, hsu⟩ := cells_of_block HUB11.out
  obtain ⟨hcv, _, hsv⟩ := cells_of_block HVB11.out
  go_wp2_with fail
  refine wp_region_rg 17 [] none [(1, ⟨fun _ v => ∃ a b c, v = hv (h) a b c, fun _ v Wx => ∃ a b c, v = hv (h) a b c ∧ PairsAt Wx a (h).wet ∧ IntsAt Wx b (h).turns ∧ TriplesAt Wx c (h).readings⟩), (3, ⟨fun _ v => ∃ x, v = .agg #[iv (t.1), x], fun _ v Wx => ∃ x, v = .agg #[iv (t.1), x] ∧ IntsAt Wx x (t.2)⟩), (10, ⟨fun _ v => ∃ o c, v = .slice o (turnedL h (bs ||| 2 ^ K)).length c, fun _ v Wx => IntsAt Wx v (turnedL h (bs ||| 2 ^ K))⟩), (11, ⟨fun _ v => ∃ o c, v = .tuple #[.slice o (P4).length c, iv 0], fun _ v Wx => ∃ o c, v = .tuple #[.slice o (P4).length c, iv 0] ∧ IntsAt Wx (.slice o (P4).length c) (P4)⟩)] (by kernel_rfl) (by kernel_rfl) ?_
  simp only [List.take_succ_cons, List.take_zero, List.drop_succ_cons, List.drop_zero]
  repeat (first | (refine tree_det (by rfl) _ (by rfl) (fun W hW => by go_simp; try rfl) ?_; simp only [Act.put, List.setIfInBounds_toArray, List.set_cons_succ, List.set_cons_zero]) | (refine tree_skip (by rfl) (by rfl) ?_; simp only [Act.put, List.setIfInBounds_toArray, List.set_cons_succ, List.set_cons_zero]))
  refine tree_some _ (by rfl) (by rfl) (by exact ⟨_, undef, undef, undef, rfl⟩) (fun W hE hF => ?_) (fun v Wa Wb ho hE => ?_) (fun v hv => ?_)
  · have hE' : Ext [] W11 W := hE
    refine does_enter 21 #[hv h (.slice (some ⟨bw, offw, none⟩) h.wet.length cw) (.slice ot h.turns.length ct) (.slice ox h.readings.length cx)] (by go_simp; try first | rfl | exact ⟨rfl, rfl, rfl, rfl, rfl, rfl, rfl⟩) ?_
    refine (Heap_any h _ _ _ W ((((HW.out.alloc _).below HB11.out (Nat.le_refl _))).below hE'.below (Nat.le_refl _)) ((((HT.out.alloc _).below HB11.out (Nat.le_refl _))).below hE'.below (Nat.le_refl _)) ((((HX.out.alloc _).below HB11.out (Nat.le_refl _))).below hE'.below (Nat.le_refl _)) (by omega) (by omega) (by omega)).mono ?_
    rintro e W' ⟨a, b, c, rfl, h1, h2, h3, hb⟩
    exact ⟨_, rfl, ⟨a, b, c, rfl⟩, ⟨a, b, c, rfl, h1, h2, h3⟩, Ext.of_below hb⟩
  · obtain ⟨a, b, c, hv, h1, h2, h3⟩ := ho
    have hB := Ext.below (show Ext [] Wa Wb from hE)
    exact ⟨a, b, c, hv, h1.below hB (Nat.le_refl _), h2.below hB (Nat.le_refl _), h3.below hB (Nat.le_refl _)⟩
  obtain ⟨a12, b12, c12, rfl⟩ := hv
  simp only [Act.put, List.setIfInBounds_toArray, List.set_cons_succ, List.set_cons_zero]
  repeat (first | (refine tree_det (by rfl) _ (by rfl) (fun W hW => by go_simp; try rfl) ?_; simp only [Act.put, List.setIfInBounds_toArray, List.set_cons_succ, List.set_cons_zero]) | (refine tree_skip (by rfl) (by rfl) ?_; simp only [Act.put, List.setIfInBounds_toArray, List.set_cons_succ, List.set_cons_zero]))
  refine tree_some _ (by rfl) (by rfl) (by exact ⟨_, undef, rfl⟩) (fun W hE hF => ?_) (fun v Wa Wb ho hE => ?_) (fun v hv => ?_)
  · have hE' : Ext [] W11 W := hE
    refine does_enter 41 #[.agg #[iv (t.1), .slice (some ⟨bq, offq, none⟩) t.2.length cu]] (by go_simp; try rfl) ?_
    refine (Truth_any (t.1, t.2) _ W (SlAt.below HTI11.out hE'.below (Nat.le_refl _)) (by simp only; omega)).mono ?_
    rintro e W' ⟨x, rfl, h1, hb⟩
    exact ⟨_, rfl, ⟨x, rfl⟩, ⟨x, rfl, h1⟩, Ext.of_below hb⟩
  · obtain ⟨x, hv, h1⟩ := ho
    exact ⟨x, hv, h1.below (Ext.below (show Ext [] Wa Wb from hE)) (Nat.le_refl _)⟩
  obtain ⟨x12, rfl⟩ := hv
  simp only [Act.put, List.setIfInBounds_toArray, List.set_cons_succ, List.set_cons_zero]
  repeat (first | (refine tree_det (by rfl) _ (by rfl) (fun W hW => by go_simp; try rfl) ?_; simp only [Act.put, List.setIfInBounds_toArray, List.set_cons_succ, List.set_cons_zero]) | (refine tree_skip (by rfl) (by rfl) ?_; simp only [Act.put, List.setIfInBounds_toArray, List.set_cons_succ, List.set_cons_zero]))
  refine tree_some _ (by rfl) (by rfl) (by exact ⟨.slice none (turnedL h (bs ||| 2 ^ K)).length 0, none, 0, rfl⟩) (fun W hE hF => ?_) (fun v Wa Wb ho hE => ?_) (fun v hv => ?_)
  · refine does_enter 34 #[hv h (.slice (some ⟨bw, offw, none⟩) h.wet.length cw) (.slice ot h.turns.length ct) (.slice ox h.readings.length cx), .int .u16 ((bs ||| 2 ^ K : Nat) : Int)] (by go_simp; exact HSO.out) ?_
    refine (turned_any h _ _ _ (bs ||| 2 ^ K) W hl0 hl9 HB2.out).mono ?_
    rintro e W' ⟨v, rfl, h1, hb⟩
    exact ⟨_, rfl, h1.open, h1, Ext.of_below hb⟩
  · exact SlAt.below ho (Ext.below (show Ext [] Wa Wb from hE)) (Nat.le_refl _)
  obtain ⟨o12, k12, rfl⟩ := hv
  simp only [Act.put, List.setIfInBounds_toArray, List.set_cons_succ, List.set_cons_zero]
  refine tree_some _ (by rfl) (by rfl) (by exact ⟨_, none, 0, rfl⟩) (fun W hE hF => ?_) (fun v Wa Wb ho hE => ?_) (fun v hv => ?_)
  · have htr : IntsAt W (.slice o12 (turnedL h (bs ||| 2 ^ K)).length k12) (turnedL h (bs ||| 2 ^ K)) := hF _ (List.Mem.head _) (by kernel_rfl)
    obtain ⟨u', hu1, hu2⟩ := hF _ (List.Mem.tail _ (List.Mem.head _)) (by kernel_rfl)
    obtain ⟨a', b', c', he, h1, h2, h3⟩ := hF _ (List.Mem.tail _ (List.Mem.tail _ (List.Mem.head _))) (by kernel_rfl)
    obtain ⟨rfl, rfl, rfl⟩ := hv_inj he
    cases hu1
    refine does_enter 40 #[hv h a12 b12 c12, .agg #[iv (t.1), x12], .slice o12 (turnedL h (bs ||| 2 ^ K)).length k12] (by go_simp; try rfl) ?_
    refine (Play_any h _ _ _ _ _ (t.1) (t.2) (turnedL h (bs ||| 2 ^ K)) W h1 h2 h3 hu2 htr).mono ?_
    rintro e W' ⟨v, rfl, hv, hb⟩
    have hv' : W'.ownsRow W.heap.size 3 1 v (P4).length (intCells (P4)) := by rw [← HP4.out.1]; exact hv
    obtain ⟨o, k, rfl⟩ := owns_slice hv'
    refine ⟨.tuple #[.slice o (P4).length k, iv 0], by rw [HP4.out.2], ⟨o, k, rfl⟩, ⟨o, k, rfl, SlAt.of_owns hv'⟩, Ext.of_below hb⟩
  · obtain ⟨o, k, hv, h1⟩ := ho
    exact ⟨o, k, hv, h1.below (Ext.below (show Ext [] Wa Wb from hE)) (Nat.le_refl _)⟩
  obtain ⟨r12, q12, rfl⟩ := hv
  simp only [Act.put, List.setIfInBounds_toArray, List.set_cons_succ, List.set_cons_zero]
  repeat (first | (refine tree_det (by rfl) _ (by rfl) (fun W hW => by go_simp; try rfl) ?_; simp only [Act.put, List.setIfInBounds_toArray, List.set_cons_succ, List.set_cons_zero]) | (refine tree_skip (by rfl) (by rfl) ?_; simp only [Act.put, List.setIfInBounds_toArray, List.set_cons_succ, List.set_cons_zero]))
  intro W12 hE hF
  obtain ⟨o', k', he, hv4⟩ := hF _ (List.Mem.head _)
  cases he
  have HV12 := Lib.hid hv4
  have hb := Ext.below (show Ext [] W11 W12 from hE)
  (try clear hcr hsr)
  have HD12 := Lib.hid hb
  have HB12 := Lib.hid (bgo HB11.out hb)
  obtain ⟨hcr, _, hsr⟩ := cells_of_block ((HB12.out.block w.heap.size (by simp)).trans (heap_new0 w _))
  clear hb
  clear hE hF hv4 hct hcu hcv
  have HA := Lib.hid (SlAt.below (SlAt.below (SlAt.below HV9.out HD10.out (Nat.le_refl _)) HD11.out (Nat.le_refl _)) HD12.out (Nat.le_refl _))
  have HBB := Lib.hid (SlAt.below (SlAt.below HV10.out HD11.out (Nat.le_refl _)) HD12.out (Nat.le_refl _))
  have HCC := Lib.hid (SlAt.below HV11.out HD12.out (Nat.le_refl _))
  go_wp2_with fail
  have HLN := Lib.hid (And.intro l1 (And.intro l2 (And.intro l3 l4)))
  clear l1 l2 l3 l4 hcr hsr
  go_loopw [25] (fun u wr => ∃ k : Nat, k ≤ P1.length ∧ u = .int .i64 k ∧ Below W12.heap.size W12 wr) (fun u _ => P1.length - (intOf u).toNat)
  case atStart => exact ⟨0, Nat.zero_le _, rfl, Below.refl _ _⟩
  case round =>
    obtain ⟨k, hk, rfl, hB⟩ := hrel
    have hb := hB
    (try clear hcr hsr)
    have HD13 := Lib.hid hb
    have HB13 := Lib.hid (bgo HB12.out hb)
    obtain ⟨hcr, _, hsr⟩ := cells_of_block ((HB13.out.block w.heap.size (by simp)).trans (heap_new0 w _))
    clear hb
    by_cases hlt : k < P1.length
    case neg =>
      have hkI : ¬ (k : Int) < h.last + 1 := by have := HLN.out; omega
      go_wp2_with fail
      refine (awake_any _).mono ?_
      rintro e W14 ⟨rfl, hb⟩
      (try clear hcr hsr)
      have HD14 := Lib.hid hb
      have HB14 := Lib.hid (bgo HB13.out hb)
      obtain ⟨hcr, _, hsr⟩ := cells_of_block ((HB14.out.block w.heap.size (by simp)).trans (heap_new0 w _))
      clear hb
      go_wp2_with fail
      go_returns
      exact ⟨by simp, bgo (bgoAlloc (Below.refl _ _) _) HB14.out⟩
    have hkI : (k : Int) < h.last + 1 := by have := HLN.out; omega
    have hlt2 : k < P2.length := by have := HLN.out; omega
    have hlt3 : k < P3.length := by have := HLN.out; omega
    have hlt4 : k < P4.length := by have := HLN.out; omega
    have hrl := HRL.out k (by omega)
    rw [getD_lt hlt, getD_lt hlt2, getD_lt hlt3, getD_lt hlt4] at hrl
    obtain ⟨b1, f1, rfl, hz1, d1⟩ := IntsAt.cell (SlAt.below HA.out hB (Nat.le_refl _)) hlt
    obtain ⟨b2, f2, rfl, hz2, d2⟩ := IntsAt.cell (SlAt.below HBB.out hB (Nat.le_refl _)) hlt2
    obtain ⟨b3, f3, rfl, hz3, d3⟩ := IntsAt.cell (SlAt.below HCC.out hB (Nat.le_refl _)) hlt3
    obtain ⟨b4, f4, rfl, hz4, d4⟩ := IntsAt.cell (SlAt.below HV12.out hB (Nat.le_refl _)) hlt4
    generalize P1[k] = y1 at *
    generalize P2[k] = y2 at *
    generalize P3[k] = y3 at *
    generalize P4[k] = y4 at *
    obtain ⟨r1, r2, r3, r4⟩ := hrl
    have q1 : decide (y2 < y1) = false := decide_eq_false (by omega)
    have q2 : decide (y3 < y1) = false := decide_eq_false (by omega)
    have q3 : decide (y1 < y4) = false := decide_eq_false (by omega)
    have hltI1 : (k : Int) < P1.length := by omega
    have hltI2 : (k : Int) < P2.length := by omega
    have hltI3 : (k : Int) < P3.length := by omega
    have hltI4 : (k : Int) < P4.length := by omega
    clear hB
    by_cases hkK : (k : Int) < K
    · obtain ⟨r5, r6⟩ := r4 hkK
      have q5 : (y2 != y1) = false := by rw [r5]; simp
      have q6 : (y4 != y1) = false := by rw [r6]; simp
      have q7 : decide (k < K) = true := decide_eq_true (by omega)
      clear r1 r2 r3 r4 r5 r6 hkK
      go_wp2_with fail
      refine wp_region_rg 58 [] none [] (by kernel_rfl) (by kernel_rfl) ?_
      simp only [List.take_succ_cons, List.take_zero, List.drop_succ_cons, List.drop_zero]
      repeat (first | (refine tree_det (by rfl) _ (by rfl) (fun W hW => by go_simp; try rfl) ?_; simp only [Act.put, List.setIfInBounds_toArray, List.set_cons_succ, List.set_cons_zero]) | (refine tree_skip (by rfl) (by rfl) ?_; simp only [Act.put, List.setIfInBounds_toArray, List.set_cons_succ, List.set_cons_zero]))
      intro W14 hE hF
      have HE := Lib.hid (show Ext [] wr W14 from hE)
      clear hE hF hcr hsr d1 d2 d3 d4
      go_wp2_with fail
      go_roundw
      case rel => exact ⟨k + 1, by omega, by go_num, bgo HD13.out HE.out.below⟩
      case measure => simp [intOf]; omega
    · have q7 : decide (k < K) = false := decide_eq_false (by omega)
      clear r1 r2 r3 r4 hkK
      go_wp2_with fail
      refine wp_region_rg 58 [] none [] (by kernel_rfl) (by kernel_rfl) ?_
      simp only [List.take_succ_cons, List.take_zero, List.drop_succ_cons, List.drop_zero]
      repeat (first | (refine tree_det (by rfl) _ (by rfl) (fun W hW => by go_simp; try rfl) ?_; simp only [Act.put, List.setIfInBounds_toArray, List.set_cons_succ, List.set_cons_zero]) | (refine tree_skip (by rfl) (by rfl) ?_; simp only [Act.put, List.setIfInBounds_toArray, List.set_cons_succ, List.set_cons_zero]))
      intro W14 hE hF
      have HE := Lib.hid (show Ext [] wr W14 from hE)
      clear hE hF hcr hsr d1 d2 d3 d4
      go_wp2_with fail
      go_roundw
      case rel => exact ⟨k + 1, by omega, by go_num, bgo HD13.out HE.out.below⟩
      case measure => simp [intOf]; omega

end Go.Proofs.Ytoibfafmnaooaaa

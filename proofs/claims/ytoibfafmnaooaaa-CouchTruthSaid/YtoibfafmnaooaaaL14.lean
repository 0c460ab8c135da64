/-
  The walk of CouchTruth: whatever the heap, the truth's number, the words and the turnings by bits, it returns true; nothing that was there has turned.
-/
import Derived.WalkKit
import Derived.WalkLawsBesides
import Derived.WalkSpells
import Derived.Outline
import Derived.Handy
import Derived.KernelRfl
import Derived.Lib.Hide
import Derived.Test.YtoibfafmnaooaaaSL
namespace Go.Proofs.Ytoibfafmnaooaaa
open Go.RowKit Go.RG Go.SL Go.Shelf Cou
set_option maxHeartbeats 400000
set_option maxRecDepth 10000

theorem truth_facts {h : HeapD} (hS : Sound h) {t : Int × List Int} (hlt : listedT h t = true) {R : List Rdg} (h5 : R.length ≤ 5) (hR : ∀ x ∈ R, Good h t x) {T : List Int} (htu : isTurns h.last T = true) :
    (fault { h with readings := R } = 0 ∧ askErr { h with readings := R } T = 0 ∧ playErr { h with readings := R } t T = 0 ∧ leaveL { h with readings := R } = [] ∧ firstE { h with readings := R } = 7 ∧ proveR { h with readings := R } t = true) ∧
    (boundsOut { h with readings := R } T).length = (h.last + 1).toNat ∧ (playOut { h with readings := R } t T).length = (h.last + 1).toNat ∧
    (∀ i, i < (h.last + 1).toNat → inB ((playOut { h with readings := R } t T).getD i 0) ((boundsOut { h with readings := R } T).getD i (0, 0)).1 ((boundsOut { h with readings := R } T).getD i (0, 0)).2 = true) ∧
    (keepsV { h with readings := R } T = 1 ∧ (playOut { h with readings := R } t T).all (inB · h.die h.burn) = true ∨ keepsV { h with readings := R } T = 2 ∧ (playOut { h with readings := R } t T).all (inB · h.die h.burn) = false ∨ keepsV { h with readings := R } T = 3) := by
  obtain ⟨hX, hm⟩ := looked_plain hS hlt h5 (fun x hx => hR x hx)
  obtain ⟨X, hXe⟩ : ∃ X, ({ h with readings := R } : HeapD) = X := ⟨_, rfl⟩
  have hla : X.last = h.last := by rw [← hXe]
  have hdi : X.die = h.die := by rw [← hXe]
  have hbu : X.burn = h.burn := by rw [← hXe]
  rw [hXe] at hX hm ⊢
  have hlX : listedT X t = true := by rw [← hXe]; exact hlt
  have htuX : isTurns X.last T = true := by rw [hla]; exact htu
  obtain ⟨p1, p2, p3, p4, p5, p6, p7, p8, p9, p10, p11⟩ := truth_plain hX hm htuX
  obtain ⟨_, q2, q3⟩ := play_okL hX hlX htuX
  have h9 := hX.last9
  have hpo : playOut X t T = (heats X t T).take (X.last + 1).toNat := by unfold playOut; rw [if_pos p2]
  have hkl : keptL X (heats X t T) = (playOut X t T).all (inB · h.die h.burn) := by
    rw [hpo]
    unfold keptL
    congr 1
    funext n
    rw [lost_in, hdi, hbu]
  rw [← hla]
  refine ⟨⟨fault_sound hX, p1, p2, p3, p4, p5⟩, p6, q2, fun i hi => ?_, ?_⟩
  · have := p7 i hi
    rw [q3 i hi]
    have hwl := hX.wetLen
    have htl := ((listedT_iff hX t).1 hlX).1
    rw [heatI_at (turns := T) (h := X) (t := t) (i := i) (by omega) (by omega)] at this
    simp only [inB, Bool.and_eq_true, decide_eq_true_eq]
    exact this
  · rw [hkl] at p8 p9
    have : keepsV X T = 1 ∨ keepsV X T = 2 ∨ keepsV X T = 3 := by omega
    rcases this with e | e | e
    · exact .inl ⟨e, p8 e⟩
    · exact .inr (.inl ⟨e, p9 e⟩)
    · exact .inr (.inr e)

set_option maxHeartbeats 4000000 in
theorem CouchTruth_any (h : HeapD) (wv tv xv' wdv : Value) (wh bs : Nat) (words : List (Fin 65536)) (w : World) (hw : PairsAt w wv h.wet) (ht : IntsAt w tv h.turns) (hx : TriplesAt w xv' h.readings) (hwd : WordsAt w wdv words) (hwh : (wh : Int) ≤ 65535) (hbs : (bs : Int) ≤ 65535) :
    Calls Try.prog 15 #[hv h wv tv xv', .int .u16 wh, wdv, .int .u16 bs] w (PV (.bool true) w) := by
  obtain ⟨ow, cw, rfl⟩ := hw.open
  obtain ⟨ot, ct, rfl⟩ := ht.open
  obtain ⟨ox, cx, rfl⟩ := hx.open
  have HW := Lib.hid hw
  have HT := Lib.hid ht
  have HX := Lib.hid hx
  clear hw ht hx
  obtain ⟨owd, cwd, rfl⟩ := hwd.open
  have HWD := Lib.hid hwd
  clear hwd
  have HB0 := Lib.hid (Below.refl (w.alloc (.cells #[.int .i64 h.last, .int .i64 h.size, .int .i64 h.cool, .int .i64 h.die, .int .i64 h.burn, .int .i64 h.start.1, .int .i64 h.start.2, .slice ow h.wet.length cw, .slice ot h.turns.length ct, .slice ox h.readings.length cx] 28)).heap.size (w.alloc (.cells #[.int .i64 h.last, .int .i64 h.size, .int .i64 h.cool, .int .i64 h.die, .int .i64 h.burn, .int .i64 h.start.1, .int .i64 h.start.2, .slice ow h.wet.length cw, .slice ot h.turns.length ct, .slice ox h.readings.length cx] 28)))
  cases hry : readyB h
  case false =>
    have HR := Lib.hid hry
    clear hry
    go_enter Try.func15, Try.ntmps15
    go_wp2_with fail
    refine (ready_any h _ _ _ _ ((HW.out.alloc _).below HB0.out (Nat.le_refl _)) ((HT.out.alloc _).below HB0.out (Nat.le_refl _)) ((HX.out.alloc _).below HB0.out (Nat.le_refl _))).mono ?_
    rw [HR.out]
    rintro e W1 ⟨rfl, hb⟩
    (try clear hcr hsr)
    have HD1 := Lib.hid hb
    have HB1 := Lib.hid (bgo HB0.out hb)
    obtain ⟨hcr, _, hsr⟩ := cells_of_block ((HB1.out.block w.heap.size (by simp)).trans (heap_new0 w _))
    clear hb
    go_wp2_with fail
    refine (awake_any _).mono ?_
    rintro e W2 ⟨rfl, hb⟩
    (try clear hcr hsr)
    have HD2 := Lib.hid hb
    have HB2 := Lib.hid (bgo HB1.out hb)
    obtain ⟨hcr, _, hsr⟩ := cells_of_block ((HB2.out.block w.heap.size (by simp)).trans (heap_new0 w _))
    clear hb
    go_wp2_with fail
    go_returns
    exact ⟨by simp, bgo (bgoAlloc (Below.refl _ _) _) HB2.out⟩
  obtain ⟨hS, hf0, hm100, hl12⟩ := ready_sound hry
  have hw10 : h.wet.length ≤ 10 := by have := hS.wetLen; have := hS.last9; omega
  have hx5 := hS.rdgs
  have hl0 := hS.last0
  have hl9 := hS.last9
  have HR := Lib.hid hry
  have HS := Lib.hid hS
  have htu := turned_turns (h := h) hl0 bs
  have HTUR := Lib.hid htu
  have hTL : (turnedL h bs).length ≤ 10 := by
    have := ((turns_inc hl0 _).1 htu).len
    omega
  obtain ⟨t, htt⟩ : ∃ t, nthT h ((wh : Int) % manyL h) = t := ⟨_, rfl⟩
  have hlt : listedT h t = true := by rw [← htt]; exact nthT_listed hS _
  have HLT := Lib.hid hlt
  have htl := (listed_of hS hlt).1
  have htl10 : t.2.length ≤ 10 := by omega
  have HT0 := Lib.hid htt
  clear hry hS hf0 hm100 htu htt hlt htl
  go_enter Try.func15, Try.ntmps15
  go_wp2_with fail
  refine (ready_any h _ _ _ _ ((HW.out.alloc _).below HB0.out (Nat.le_refl _)) ((HT.out.alloc _).below HB0.out (Nat.le_refl _)) ((HX.out.alloc _).below HB0.out (Nat.le_refl _))).mono ?_
  rw [HR.out]
  rintro e W1 ⟨rfl, hb⟩
  (try clear hcr hsr)
  have HD1 := Lib.hid hb
  have HB1 := Lib.hid (bgo HB0.out hb)
  obtain ⟨hcr, _, hsr⟩ := cells_of_block ((HB1.out.block w.heap.size (by simp)).trans (heap_new0 w _))
  clear hb
  go_wp2_with fail
  refine (Looked_any h HS.out _ _ _ _ _ _ _ wh words _ ((HW.out.alloc _).below HB1.out (Nat.le_refl _)) ((HT.out.alloc _).below HB1.out (Nat.le_refl _)) ((HWD.out.alloc _).below HB1.out (Nat.le_refl _)) hwh).mono ?_
  rw [HT0.out]
  rintro e W2 ⟨R, oR, cR, u, rfl, hRA, hu, hR5, hRG, hb⟩
  obtain ⟨ou, cu, rfl⟩ := hu.open
  have HRA := Lib.hid hRA
  have HU := Lib.hid hu
  obtain ⟨hF, hbl, hpl, hin, hkp⟩ := truth_facts HS.out HLT.out hR5 hRG HTUR.out
  obtain ⟨P, hP⟩ : ∃ P, playOut { h with readings := R } t (turnedL h bs) = P := ⟨_, rfl⟩
  obtain ⟨B, hB⟩ : ∃ B, boundsOut { h with readings := R } (turnedL h bs) = B := ⟨_, rfl⟩
  obtain ⟨V, hV⟩ : ∃ V, keepsV { h with readings := R } (turnedL h bs) = V := ⟨_, rfl⟩
  obtain ⟨fv, hfv⟩ : ∃ fv, firstV { h with readings := R } = fv := ⟨_, rfl⟩
  rw [hP] at hpl hin hkp
  rw [hB] at hbl hin
  rw [hV] at hkp
  have HF := Lib.hid hF
  have HPB := Lib.hid (And.intro hP (And.intro hB (And.intro hV hfv)))
  have HPL := Lib.hid (And.intro hP hF.2.2.1)
  have HIN := Lib.hid hin
  have HKP := Lib.hid hkp
  have HLN : Hid ((P.length : Int) = h.last + 1 ∧ (B.length : Int) = h.last + 1) := Lib.hid (by omega)
  have hplI : ((P.length : Int) != h.last + 1) = false := by rw [HLN.out.1]; simp
  have hblI : ((B.length : Int) != (P.length : Int)) = false := by rw [HLN.out.1, HLN.out.2]; simp
  have HXL : Hid (({ h with readings := R } : HeapD).readings.length ≤ 5) := Lib.hid hR5
  clear hF hbl hpl hin hkp hP hB hV hfv hRA hu
  (try clear hcr hsr)
  have HD2 := Lib.hid hb
  have HB2 := Lib.hid (bgo HB1.out hb)
  obtain ⟨hcr, _, hsr⟩ := cells_of_block ((HB2.out.block w.heap.size (by simp)).trans (heap_new0 w _))
  clear hb
  go_wp2_with fail
  refine gcallsW fun W3 hW3 => ?_
  have hb : Below W2.heap.size W2 W3 := by rw [hW3]; exact (by repeat (first | exact Below.refl _ _ | assumption | refine bgo ?_ (by assumption) | refine bgoAlloc ?_ _ | refine bgoDrew ?_ | refine bgoSet ?_ (by simp; omega) _))
  have HXB3 := Lib.hid (show W3.heap[W2.heap.size]? = some (.cells #[iv h.last, iv h.size, iv h.cool, iv h.die, iv h.burn, iv h.start.1, iv h.start.2, .slice ow h.wet.length cw, .slice ot h.turns.length ct, .slice oR R.length cR] 28 (0, 0)) from by rw [hW3]; exact (Below.heap_alloc _ _ _ (by first | omega | (simp; done) | (simp; omega))).trans (heap_new0 _ _))
  have HTB3 := Lib.hid (show W3.heap[W2.heap.size + 1]? = some (.cells #[iv t.1, .slice ou t.2.length cu] 66 (0, 0)) from by rw [hW3]; exact heap_new1 _ _ _)
  clear hW3
  (try clear hcr hsr)
  have HD3 := Lib.hid hb
  have HB3 := Lib.hid (bgo HB2.out hb)
  obtain ⟨hcr, _, hsr⟩ := cells_of_block ((HB3.out.block w.heap.size (by simp)).trans (heap_new0 w _))
  clear hb
  have HXR3 := Lib.hid (SlAt.below HRA.out HD3.out (Nat.le_refl _))
  have HVI3 := Lib.hid (SlAt.below HU.out HD3.out (Nat.le_refl _))
  refine (turned_any h _ _ _ bs _ hl0 hl9 hbs).mono ?_
  rintro e W4 ⟨v, rfl, hv, hb⟩
  obtain ⟨oT, kT, rfl⟩ := hv.open
  have HTU4 := Lib.hid hv
  clear hv
  (try clear hcr hsr)
  have HD4 := Lib.hid hb
  have HB4 := Lib.hid (bgo HB3.out hb)
  obtain ⟨hcr, _, hsr⟩ := cells_of_block ((HB4.out.block w.heap.size (by simp)).trans (heap_new0 w _))
  clear hb
  have HTU3 := HTU4
  have HXB4 := Lib.hid ((HD4.out.block _ (cells_of_block HXB3.out).2.2).trans HXB3.out)
  have HTB4 := Lib.hid ((HD4.out.block _ (cells_of_block HTB3.out).2.2).trans HTB3.out)
  have HXR4 := Lib.hid (SlAt.below HXR3.out HD4.out (Nat.le_refl _))
  have HVI4 := Lib.hid (SlAt.below HVI3.out HD4.out (Nat.le_refl _))
  obtain ⟨hcx, _, hsx⟩ := cells_of_block HXB4.out
  obtain ⟨hct, _, hst⟩ := cells_of_block HTB4.out
  go_wp2_with fail
  refine wp_region_rg 12 [] none [(1, ⟨fun _ v => ∃ a b c, v = hv ({ h with readings := R }) a b c, fun _ v Wx => ∃ a b c, v = hv ({ h with readings := R }) a b c ∧ PairsAt Wx a ({ h with readings := R }).wet ∧ IntsAt Wx b ({ h with readings := R }).turns ∧ TriplesAt Wx c ({ h with readings := R }).readings⟩), (3, ⟨fun _ v => ∃ x, v = .agg #[iv (t.1), x], fun _ v Wx => ∃ x, v = .agg #[iv (t.1), x] ∧ IntsAt Wx x (t.2)⟩), (5, ⟨fun _ v => ∃ o c, v = .slice o (turnedL h bs).length c, fun _ v Wx => IntsAt Wx v (turnedL h bs)⟩), (6, ⟨fun _ v => ∃ o c, v = .tuple #[.slice o (P).length c, iv 0], fun _ v Wx => ∃ o c, v = .tuple #[.slice o (P).length c, iv 0] ∧ IntsAt Wx (.slice o (P).length c) (P)⟩)] (by kernel_rfl) (by kernel_rfl) ?_
  simp only [List.take_succ_cons, List.take_zero, List.drop_succ_cons, List.drop_zero]
  repeat (first | (refine tree_det (by rfl) _ (by rfl) (fun W hW => by go_simp; try rfl) ?_; simp only [Act.put, List.setIfInBounds_toArray, List.set_cons_succ, List.set_cons_zero]) | (refine tree_skip (by rfl) (by rfl) ?_; simp only [Act.put, List.setIfInBounds_toArray, List.set_cons_succ, List.set_cons_zero]))
  refine tree_some _ (by rfl) (by rfl) (by exact ⟨_, undef, undef, undef, rfl⟩) (fun W hE hF => ?_) (fun v Wa Wb ho hE => ?_) (fun v hv => ?_)
  · have hE' : Ext [] W4 W := hE
    refine does_enter 21 #[hv ({ h with readings := R }) (.slice ow h.wet.length cw) (.slice ot h.turns.length ct) (.slice oR R.length cR)] (by go_simp; try first | rfl | exact ⟨rfl, rfl, rfl, rfl, rfl, rfl, rfl⟩) ?_
    refine (Heap_any ({ h with readings := R }) _ _ _ W ((((HW.out.alloc _).below HB4.out (Nat.le_refl _))).below hE'.below (Nat.le_refl _)) ((((HT.out.alloc _).below HB4.out (Nat.le_refl _))).below hE'.below (Nat.le_refl _)) (SlAt.below HXR4.out hE'.below (Nat.le_refl _)) (by show h.wet.length ≤ 1000; omega) (by show h.turns.length ≤ 1000; omega) (Nat.le_trans HXL.out (by omega))).mono ?_
    rintro e W' ⟨a, b, c, rfl, h1, h2, h3, hb⟩
    exact ⟨_, rfl, ⟨a, b, c, rfl⟩, ⟨a, b, c, rfl, h1, h2, h3⟩, Ext.of_below hb⟩
  · obtain ⟨a, b, c, hv, h1, h2, h3⟩ := ho
    have hB := Ext.below (show Ext [] Wa Wb from hE)
    exact ⟨a, b, c, hv, h1.below hB (Nat.le_refl _), h2.below hB (Nat.le_refl _), h3.below hB (Nat.le_refl _)⟩
  obtain ⟨a5, b5, c5, rfl⟩ := hv
  simp only [Act.put, List.setIfInBounds_toArray, List.set_cons_succ, List.set_cons_zero]
  repeat (first | (refine tree_det (by rfl) _ (by rfl) (fun W hW => by go_simp; try rfl) ?_; simp only [Act.put, List.setIfInBounds_toArray, List.set_cons_succ, List.set_cons_zero]) | (refine tree_skip (by rfl) (by rfl) ?_; simp only [Act.put, List.setIfInBounds_toArray, List.set_cons_succ, List.set_cons_zero]))
  refine tree_some _ (by rfl) (by rfl) (by exact ⟨_, undef, rfl⟩) (fun W hE hF => ?_) (fun v Wa Wb ho hE => ?_) (fun v hv => ?_)
  · have hE' : Ext [] W4 W := hE
    refine does_enter 41 #[.agg #[iv (t.1), .slice ou t.2.length cu]] (by go_simp; try rfl) ?_
    refine (Truth_any (t.1, t.2) _ W (SlAt.below HVI4.out hE'.below (Nat.le_refl _)) (by simp only; omega)).mono ?_
    rintro e W' ⟨x, rfl, h1, hb⟩
    exact ⟨_, rfl, ⟨x, rfl⟩, ⟨x, rfl, h1⟩, Ext.of_below hb⟩
  · obtain ⟨x, hv, h1⟩ := ho
    exact ⟨x, hv, h1.below (Ext.below (show Ext [] Wa Wb from hE)) (Nat.le_refl _)⟩
  obtain ⟨x5, rfl⟩ := hv
  simp only [Act.put, List.setIfInBounds_toArray, List.set_cons_succ, List.set_cons_zero]
  repeat (first | (refine tree_det (by rfl) _ (by rfl) (fun W hW => by go_simp; try rfl) ?_; simp only [Act.put, List.setIfInBounds_toArray, List.set_cons_succ, List.set_cons_zero]) | (refine tree_skip (by rfl) (by rfl) ?_; simp only [Act.put, List.setIfInBounds_toArray, List.set_cons_succ, List.set_cons_zero]))
  refine tree_some _ (by rfl) (by rfl) (by exact ⟨.slice none (turnedL h bs).length 0, none, 0, rfl⟩) (fun W hE hF => ?_) (fun v Wa Wb ho hE => SlAt.below ho (Ext.below (show Ext [] Wa Wb from hE)) (Nat.le_refl _)) (fun v hv => ?_)
  · have hE' : Ext [] W4 W := hE
    refine does_enter 22 #[.slice oT (turnedL h bs).length kT] (by go_simp; try rfl) ?_
    refine (list_any (turnedL h bs) _ W (SlAt.below HTU4.out hE'.below (Nat.le_refl _)) (by omega)).mono ?_
    rintro e W6 ⟨v, rfl, ho, hb⟩
    exact ⟨v, rfl, owns_slice ho, SlAt.of_owns ho, Ext.of_below hb⟩
  obtain ⟨o5, k5, rfl⟩ := hv
  simp only [Act.put, List.setIfInBounds_toArray, List.set_cons_succ, List.set_cons_zero]
  refine tree_some _ (by rfl) (by rfl) (by exact ⟨_, none, 0, rfl⟩) (fun W hE hF => ?_) (fun v Wa Wb ho hE => ?_) (fun v hv => ?_)
  · have htr : IntsAt W (.slice o5 (turnedL h bs).length k5) (turnedL h bs) := hF _ (List.Mem.head _) (by kernel_rfl)
    obtain ⟨u', hu1, hu2⟩ := hF _ (List.Mem.tail _ (List.Mem.head _)) (by kernel_rfl)
    obtain ⟨a', b', c', he, h1, h2, h3⟩ := hF _ (List.Mem.tail _ (List.Mem.tail _ (List.Mem.head _))) (by kernel_rfl)
    obtain ⟨rfl, rfl, rfl⟩ := hv_inj he
    cases hu1
    refine does_enter 40 #[hv ({ h with readings := R }) a5 b5 c5, .agg #[iv (t.1), x5], .slice o5 (turnedL h bs).length k5] (by go_simp; try rfl) ?_
    refine (Play_any ({ h with readings := R }) _ _ _ _ _ (t.1) (t.2) (turnedL h bs) W h1 h2 h3 hu2 htr).mono ?_
    rintro e W' ⟨v, rfl, hv, hb⟩
    have hv' : W'.ownsRow W.heap.size 3 1 v (P).length (intCells (P)) := by rw [← HPL.out.1]; exact hv
    obtain ⟨o, k, rfl⟩ := owns_slice hv'
    refine ⟨.tuple #[.slice o (P).length k, iv 0], by rw [HPL.out.2], ⟨o, k, rfl⟩, ⟨o, k, rfl, SlAt.of_owns hv'⟩, Ext.of_below hb⟩
  · obtain ⟨o, k, hv, h1⟩ := ho
    exact ⟨o, k, hv, h1.below (Ext.below (show Ext [] Wa Wb from hE)) (Nat.le_refl _)⟩
  obtain ⟨r5, q5, rfl⟩ := hv
  simp only [Act.put, List.setIfInBounds_toArray, List.set_cons_succ, List.set_cons_zero]
  repeat (first | (refine tree_det (by rfl) _ (by rfl) (fun W hW => by go_simp; try rfl) ?_; simp only [Act.put, List.setIfInBounds_toArray, List.set_cons_succ, List.set_cons_zero]) | (refine tree_skip (by rfl) (by rfl) ?_; simp only [Act.put, List.setIfInBounds_toArray, List.set_cons_succ, List.set_cons_zero]))
  intro W5 hE hF
  obtain ⟨o', k', he, hv4⟩ := hF _ (List.Mem.head _)
  cases he
  have HV5 := Lib.hid hv4
  have hb := Ext.below (show Ext [] W4 W5 from hE)
  (try clear hcr hsr)
  have HD5 := Lib.hid hb
  have HB5 := Lib.hid (bgo HB4.out hb)
  obtain ⟨hcr, _, hsr⟩ := cells_of_block ((HB5.out.block w.heap.size (by simp)).trans (heap_new0 w _))
  clear hb
  clear hE hF hv4
  have HXB5 := Lib.hid ((HD5.out.block _ (cells_of_block HXB4.out).2.2).trans HXB4.out)
  have HTB5 := Lib.hid ((HD5.out.block _ (cells_of_block HTB4.out).2.2).trans HTB4.out)
  have HXR5 := Lib.hid (SlAt.below HXR4.out HD5.out (Nat.le_refl _))
  have HVI5 := Lib.hid (SlAt.below HVI4.out HD5.out (Nat.le_refl _))
  have HTU5 := Lib.hid (SlAt.below HTU4.out HD5.out (Nat.le_refl _))
  (try clear hcx hsx hct hst)
  obtain ⟨hcx, _, hsx⟩ := cells_of_block HXB5.out
  obtain ⟨hct, _, hst⟩ := cells_of_block HTB5.out
  go_wp2_with fail
  refine (Heap_any { h with readings := R } _ _ _ _ ((HW.out.alloc _).below HB5.out (Nat.le_refl _)) ((HT.out.alloc _).below HB5.out (Nat.le_refl _)) HXR5.out (by show h.wet.length ≤ 1000; omega) (by show h.turns.length ≤ 1000; omega) (by show R.length ≤ 1000; omega)).mono ?_
  rintro e W6 ⟨a6, b6, c6, rfl, h1, h2, h3, hb⟩
  (try clear hcr hsr)
  have HD6 := Lib.hid hb
  have HB6 := Lib.hid (bgo HB5.out hb)
  obtain ⟨hcr, _, hsr⟩ := cells_of_block ((HB6.out.block w.heap.size (by simp)).trans (heap_new0 w _))
  clear hb
  have HXB6 := Lib.hid ((HD6.out.block _ (cells_of_block HXB5.out).2.2).trans HXB5.out)
  have HTB6 := Lib.hid ((HD6.out.block _ (cells_of_block HTB5.out).2.2).trans HTB5.out)
  have HXR6 := Lib.hid (SlAt.below HXR5.out HD6.out (Nat.le_refl _))
  have HVI6 := Lib.hid (SlAt.below HVI5.out HD6.out (Nat.le_refl _))
  have HTU6 := Lib.hid (SlAt.below HTU5.out HD6.out (Nat.le_refl _))
  (try clear hcx hsx hct hst)
  obtain ⟨hcx, _, hsx⟩ := cells_of_block HXB6.out
  obtain ⟨hct, _, hst⟩ := cells_of_block HTB6.out
  have HH6 := Lib.hid (And.intro h1 (And.intro h2 h3))
  clear h1 h2 h3
  go_wp2_with fail
  refine (list_any (turnedL h bs) _ _ HTU6.out (by omega)).mono ?_
  rintro e W7 ⟨v, rfl, ho, hb⟩
  obtain ⟨o7, k7, rfl⟩ := owns_slice ho
  have HV7 := Lib.hid (SlAt.of_owns ho)
  clear ho
  (try clear hcr hsr)
  have HD7 := Lib.hid hb
  have HB7 := Lib.hid (bgo HB6.out hb)
  obtain ⟨hcr, _, hsr⟩ := cells_of_block ((HB7.out.block w.heap.size (by simp)).trans (heap_new0 w _))
  clear hb
  have HXB7 := Lib.hid ((HD7.out.block _ (cells_of_block HXB6.out).2.2).trans HXB6.out)
  have HTB7 := Lib.hid ((HD7.out.block _ (cells_of_block HTB6.out).2.2).trans HTB6.out)
  have HXR7 := Lib.hid (SlAt.below HXR6.out HD7.out (Nat.le_refl _))
  have HVI7 := Lib.hid (SlAt.below HVI6.out HD7.out (Nat.le_refl _))
  have HTU7 := Lib.hid (SlAt.below HTU6.out HD7.out (Nat.le_refl _))
  (try clear hcx hsx hct hst)
  obtain ⟨hcx, _, hsx⟩ := cells_of_block HXB7.out
  obtain ⟨hct, _, hst⟩ := cells_of_block HTB7.out
  go_wp2_with fail
  refine (Bounds_any { h with readings := R } _ _ _ _ (turnedL h bs) _ (HH6.out.1.below HD7.out (Nat.le_refl _)) (HH6.out.2.1.below HD7.out (Nat.le_refl _)) (HH6.out.2.2.below HD7.out (Nat.le_refl _)) HV7.out).mono ?_
  rintro e W8 ⟨v, rfl, hv, hb⟩
  rw [HF.out.2.1]
  rw [HPB.out.2.1] at hv
  obtain ⟨o8, k8, rfl⟩ := SlAt.open hv
  have HV8 := Lib.hid hv
  clear hv
  (try clear hcr hsr)
  have HD8 := Lib.hid hb
  have HB8 := Lib.hid (bgo HB7.out hb)
  obtain ⟨hcr, _, hsr⟩ := cells_of_block ((HB8.out.block w.heap.size (by simp)).trans (heap_new0 w _))
  clear hb
  have HXB8 := Lib.hid ((HD8.out.block _ (cells_of_block HXB7.out).2.2).trans HXB7.out)
  have HTB8 := Lib.hid ((HD8.out.block _ (cells_of_block HTB7.out).2.2).trans HTB7.out)
  have HXR8 := Lib.hid (SlAt.below HXR7.out HD8.out (Nat.le_refl _))
  have HVI8 := Lib.hid (SlAt.below HVI7.out HD8.out (Nat.le_refl _))
  have HTU8 := Lib.hid (SlAt.below HTU7.out HD8.out (Nat.le_refl _))
  (try clear hcx hsx hct hst)
  obtain ⟨hcx, _, hsx⟩ := cells_of_block HXB8.out
  obtain ⟨hct, _, hst⟩ := cells_of_block HTB8.out
  go_wp2_with fail
  refine (Heap_any { h with readings := R } _ _ _ _ ((HW.out.alloc _).below HB8.out (Nat.le_refl _)) ((HT.out.alloc _).below HB8.out (Nat.le_refl _)) HXR8.out (by show h.wet.length ≤ 1000; omega) (by show h.turns.length ≤ 1000; omega) (by show R.length ≤ 1000; omega)).mono ?_
  rintro e W9 ⟨a9, b9, c9, rfl, h1, h2, h3, hb⟩
  (try clear hcr hsr)
  have HD9 := Lib.hid hb
  have HB9 := Lib.hid (bgo HB8.out hb)
  obtain ⟨hcr, _, hsr⟩ := cells_of_block ((HB9.out.block w.heap.size (by simp)).trans (heap_new0 w _))
  clear hb
  have HXB9 := Lib.hid ((HD9.out.block _ (cells_of_block HXB8.out).2.2).trans HXB8.out)
  have HTB9 := Lib.hid ((HD9.out.block _ (cells_of_block HTB8.out).2.2).trans HTB8.out)
  have HXR9 := Lib.hid (SlAt.below HXR8.out HD9.out (Nat.le_refl _))
  have HVI9 := Lib.hid (SlAt.below HVI8.out HD9.out (Nat.le_refl _))
  have HTU9 := Lib.hid (SlAt.below HTU8.out HD9.out (Nat.le_refl _))
  (try clear hcx hsx hct hst)
  obtain ⟨hcx, _, hsx⟩ := cells_of_block HXB9.out
  obtain ⟨hct, _, hst⟩ := cells_of_block HTB9.out
  have HH9 := Lib.hid (And.intro h1 (And.intro h2 h3))
  clear h1 h2 h3
  go_wp2_with fail
  refine (list_any (turnedL h bs) _ _ HTU9.out (by omega)).mono ?_
  rintro e W10 ⟨v, rfl, ho, hb⟩
  obtain ⟨o10, k10, rfl⟩ := owns_slice ho
  have HV10 := Lib.hid (SlAt.of_owns ho)
  clear ho
  (try clear hcr hsr)
  have HD10 := Lib.hid hb
  have HB10 := Lib.hid (bgo HB9.out hb)
  obtain ⟨hcr, _, hsr⟩ := cells_of_block ((HB10.out.block w.heap.size (by simp)).trans (heap_new0 w _))
  clear hb
  have HXB10 := Lib.hid ((HD10.out.block _ (cells_of_block HXB9.out).2.2).trans HXB9.out)
  have HTB10 := Lib.hid ((HD10.out.block _ (cells_of_block HTB9.out).2.2).trans HTB9.out)
  have HXR10 := Lib.hid (SlAt.below HXR9.out HD10.out (Nat.le_refl _))
  have HVI10 := Lib.hid (SlAt.below HVI9.out HD10.out (Nat.le_refl _))
  have HTU10 := Lib.hid (SlAt.below HTU9.out HD10.out (Nat.le_refl _))
  (try clear hcx hsx hct hst)
  obtain ⟨hcx, _, hsx⟩ := cells_of_block HXB10.out
  obtain ⟨hct, _, hst⟩ := cells_of_block HTB10.out
  go_wp2_with fail
  refine (Keeps_any { h with readings := R } _ _ _ _ (turnedL h bs) _ (HH9.out.1.below HD10.out (Nat.le_refl _)) (HH9.out.2.1.below HD10.out (Nat.le_refl _)) (HH9.out.2.2.below HD10.out (Nat.le_refl _)) HV10.out).mono ?_
  rintro e W11 ⟨rfl, hb⟩
  rw [HF.out.2.1, HPB.out.2.2.1]
  (try clear hcr hsr)
  have HD11 := Lib.hid hb
  have HB11 := Lib.hid (bgo HB10.out hb)
  obtain ⟨hcr, _, hsr⟩ := cells_of_block ((HB11.out.block w.heap.size (by simp)).trans (heap_new0 w _))
  clear hb
  have HXB11 := Lib.hid ((HD11.out.block _ (cells_of_block HXB10.out).2.2).trans HXB10.out)
  have HTB11 := Lib.hid ((HD11.out.block _ (cells_of_block HTB10.out).2.2).trans HTB10.out)
  have HXR11 := Lib.hid (SlAt.below HXR10.out HD11.out (Nat.le_refl _))
  have HVI11 := Lib.hid (SlAt.below HVI10.out HD11.out (Nat.le_refl _))
  have HTU11 := Lib.hid (SlAt.below HTU10.out HD11.out (Nat.le_refl _))
  (try clear hcx hsx hct hst)
  obtain ⟨hcx, _, hsx⟩ := cells_of_block HXB11.out
  obtain ⟨hct, _, hst⟩ := cells_of_block HTB11.out
  go_wp2_with fail
  refine (Heap_any { h with readings := R } _ _ _ _ ((HW.out.alloc _).below HB11.out (Nat.le_refl _)) ((HT.out.alloc _).below HB11.out (Nat.le_refl _)) HXR11.out (by show h.wet.length ≤ 1000; omega) (by show h.turns.length ≤ 1000; omega) (by show R.length ≤ 1000; omega)).mono ?_
  rintro e W12 ⟨a12, b12, c12, rfl, h1, h2, h3, hb⟩
  (try clear hcr hsr)
  have HD12 := Lib.hid hb
  have HB12 := Lib.hid (bgo HB11.out hb)
  obtain ⟨hcr, _, hsr⟩ := cells_of_block ((HB12.out.block w.heap.size (by simp)).trans (heap_new0 w _))
  clear hb
  have HXB12 := Lib.hid ((HD12.out.block _ (cells_of_block HXB11.out).2.2).trans HXB11.out)
  have HTB12 := Lib.hid ((HD12.out.block _ (cells_of_block HTB11.out).2.2).trans HTB11.out)
  have HXR12 := Lib.hid (SlAt.below HXR11.out HD12.out (Nat.le_refl _))
  have HVI12 := Lib.hid (SlAt.below HVI11.out HD12.out (Nat.le_refl _))
  have HTU12 := Lib.hid (SlAt.below HTU11.out HD12.out (Nat.le_refl _))
  (try clear hcx hsx hct hst)
  obtain ⟨hcx, _, hsx⟩ := cells_of_block HXB12.out
  obtain ⟨hct, _, hst⟩ := cells_of_block HTB12.out
  have HH12 := Lib.hid (And.intro h1 (And.intro h2 h3))
  clear h1 h2 h3
  go_wp2_with fail
  refine (Leave_any { h with readings := R } _ _ _ _ HH12.out.1 HH12.out.2.1 HH12.out.2.2).mono ?_
  rintro e W13 ⟨v, rfl, hv, hb⟩
  rw [HF.out.1]
  rw [HF.out.2.2.2.1] at hv
  obtain ⟨o13, k13, rfl⟩ := hv.open
  clear hv
  (try clear hcr hsr)
  have HD13 := Lib.hid hb
  have HB13 := Lib.hid (bgo HB12.out hb)
  obtain ⟨hcr, _, hsr⟩ := cells_of_block ((HB13.out.block w.heap.size (by simp)).trans (heap_new0 w _))
  clear hb
  have HXB13 := Lib.hid ((HD13.out.block _ (cells_of_block HXB12.out).2.2).trans HXB12.out)
  have HTB13 := Lib.hid ((HD13.out.block _ (cells_of_block HTB12.out).2.2).trans HTB12.out)
  have HXR13 := Lib.hid (SlAt.below HXR12.out HD13.out (Nat.le_refl _))
  have HVI13 := Lib.hid (SlAt.below HVI12.out HD13.out (Nat.le_refl _))
  have HTU13 := Lib.hid (SlAt.below HTU12.out HD13.out (Nat.le_refl _))
  (try clear hcx hsx hct hst)
  obtain ⟨hcx, _, hsx⟩ := cells_of_block HXB13.out
  obtain ⟨hct, _, hst⟩ := cells_of_block HTB13.out
  go_wp2_with fail
  refine (Heap_any { h with readings := R } _ _ _ _ ((HW.out.alloc _).below HB13.out (Nat.le_refl _)) ((HT.out.alloc _).below HB13.out (Nat.le_refl _)) HXR13.out (by show h.wet.length ≤ 1000; omega) (by show h.turns.length ≤ 1000; omega) (by show R.length ≤ 1000; omega)).mono ?_
  rintro e W14 ⟨a14, b14, c14, rfl, h1, h2, h3, hb⟩
  (try clear hcr hsr)
  have HD14 := Lib.hid hb
  have HB14 := Lib.hid (bgo HB13.out hb)
  obtain ⟨hcr, _, hsr⟩ := cells_of_block ((HB14.out.block w.heap.size (by simp)).trans (heap_new0 w _))
  clear hb
  have HXB14 := Lib.hid ((HD14.out.block _ (cells_of_block HXB13.out).2.2).trans HXB13.out)
  have HTB14 := Lib.hid ((HD14.out.block _ (cells_of_block HTB13.out).2.2).trans HTB13.out)
  have HXR14 := Lib.hid (SlAt.below HXR13.out HD14.out (Nat.le_refl _))
  have HVI14 := Lib.hid (SlAt.below HVI13.out HD14.out (Nat.le_refl _))
  have HTU14 := Lib.hid (SlAt.below HTU13.out HD14.out (Nat.le_refl _))
  (try clear hcx hsx hct hst)
  obtain ⟨hcx, _, hsx⟩ := cells_of_block HXB14.out
  obtain ⟨hct, _, hst⟩ := cells_of_block HTB14.out
  have HH14 := Lib.hid (And.intro h1 (And.intro h2 h3))
  clear h1 h2 h3
  go_wp2_with fail
  refine (First_any { h with readings := R } _ _ _ _ HH14.out.1 HH14.out.2.1 HH14.out.2.2).mono ?_
  rintro e W15 ⟨rfl, hb⟩
  rw [HPB.out.2.2.2, HF.out.2.2.2.2.1]
  (try clear hcr hsr)
  have HD15 := Lib.hid hb
  have HB15 := Lib.hid (bgo HB14.out hb)
  obtain ⟨hcr, _, hsr⟩ := cells_of_block ((HB15.out.block w.heap.size (by simp)).trans (heap_new0 w _))
  clear hb
  have HXB15 := Lib.hid ((HD15.out.block _ (cells_of_block HXB14.out).2.2).trans HXB14.out)
  have HTB15 := Lib.hid ((HD15.out.block _ (cells_of_block HTB14.out).2.2).trans HTB14.out)
  have HXR15 := Lib.hid (SlAt.below HXR14.out HD15.out (Nat.le_refl _))
  have HVI15 := Lib.hid (SlAt.below HVI14.out HD15.out (Nat.le_refl _))
  have HTU15 := Lib.hid (SlAt.below HTU14.out HD15.out (Nat.le_refl _))
  (try clear hcx hsx hct hst)
  obtain ⟨hcx, _, hsx⟩ := cells_of_block HXB15.out
  obtain ⟨hct, _, hst⟩ := cells_of_block HTB15.out
  go_wp2_with fail
  refine wp_region_rg 46 [] none [(40, ⟨fun _ v => ∃ a b c, v = hv ({ h with readings := R }) a b c, fun _ v Wx => ∃ a b c, v = hv ({ h with readings := R }) a b c ∧ PairsAt Wx a ({ h with readings := R }).wet ∧ IntsAt Wx b ({ h with readings := R }).turns ∧ TriplesAt Wx c ({ h with readings := R }).readings⟩), (42, ⟨fun _ v => ∃ x, v = .agg #[iv (t.1), x], fun _ v Wx => ∃ x, v = .agg #[iv (t.1), x] ∧ IntsAt Wx x (t.2)⟩), (43, Spec.val (.bool true))] (by kernel_rfl) (by kernel_rfl) ?_
  simp only [List.take_succ_cons, List.take_zero, List.drop_succ_cons, List.drop_zero]
  repeat (first | (refine tree_det (by rfl) _ (by rfl) (fun W hW => by go_simp; (try simp (disch := omega) only [IntWalk.i64_in]); try rfl) ?_; simp only [Act.put, List.setIfInBounds_toArray, List.set_cons_succ, List.set_cons_zero]) | (refine tree_skip (by rfl) (by rfl) ?_; simp only [Act.put, List.setIfInBounds_toArray, List.set_cons_succ, List.set_cons_zero]))
  refine tree_some _ (by rfl) (by rfl) (by exact ⟨_, undef, undef, undef, rfl⟩) (fun W hE hF => ?_) (fun v Wa Wb ho hE => ?_) (fun v hv => ?_)
  · have hE' : Ext [] W15 W := hE
    refine does_enter 21 #[hv ({ h with readings := R }) (.slice ow h.wet.length cw) (.slice ot h.turns.length ct) (.slice oR R.length cR)] (by go_simp; try first | rfl | exact ⟨rfl, rfl, rfl, rfl, rfl, rfl, rfl⟩) ?_
    refine (Heap_any ({ h with readings := R }) _ _ _ W ((((HW.out.alloc _).below HB15.out (Nat.le_refl _))).below hE'.below (Nat.le_refl _)) ((((HT.out.alloc _).below HB15.out (Nat.le_refl _))).below hE'.below (Nat.le_refl _)) (SlAt.below HXR15.out hE'.below (Nat.le_refl _)) (by show h.wet.length ≤ 1000; omega) (by show h.turns.length ≤ 1000; omega) (Nat.le_trans HXL.out (by omega))).mono ?_
    rintro e W' ⟨a, b, c, rfl, h1, h2, h3, hb⟩
    exact ⟨_, rfl, ⟨a, b, c, rfl⟩, ⟨a, b, c, rfl, h1, h2, h3⟩, Ext.of_below hb⟩
  · obtain ⟨a, b, c, hv, h1, h2, h3⟩ := ho
    have hB := Ext.below (show Ext [] Wa Wb from hE)
    exact ⟨a, b, c, hv, h1.below hB (Nat.le_refl _), h2.below hB (Nat.le_refl _), h3.below hB (Nat.le_refl _)⟩
  obtain ⟨a16, b16, c16, rfl⟩ := hv
  simp only [Act.put, List.setIfInBounds_toArray, List.set_cons_succ, List.set_cons_zero]
  repeat (first | (refine tree_det (by rfl) _ (by rfl) (fun W hW => by go_simp; try rfl) ?_; simp only [Act.put, List.setIfInBounds_toArray, List.set_cons_succ, List.set_cons_zero]) | (refine tree_skip (by rfl) (by rfl) ?_; simp only [Act.put, List.setIfInBounds_toArray, List.set_cons_succ, List.set_cons_zero]))
  refine tree_some _ (by rfl) (by rfl) (by exact ⟨_, undef, rfl⟩) (fun W hE hF => ?_) (fun v Wa Wb ho hE => ?_) (fun v hv => ?_)
  · have hE' : Ext [] W15 W := hE
    refine does_enter 41 #[.agg #[iv (t.1), .slice ou t.2.length cu]] (by go_simp; try rfl) ?_
    refine (Truth_any (t.1, t.2) _ W (SlAt.below HVI15.out hE'.below (Nat.le_refl _)) (by simp only; omega)).mono ?_
    rintro e W' ⟨x, rfl, h1, hb⟩
    exact ⟨_, rfl, ⟨x, rfl⟩, ⟨x, rfl, h1⟩, Ext.of_below hb⟩
  · obtain ⟨x, hv, h1⟩ := ho
    exact ⟨x, hv, h1.below (Ext.below (show Ext [] Wa Wb from hE)) (Nat.le_refl _)⟩
  obtain ⟨x16, rfl⟩ := hv
  simp only [Act.put, List.setIfInBounds_toArray, List.set_cons_succ, List.set_cons_zero]
  refine tree_val _ (by rfl) (by rfl) 55 #[hv ({ h with readings := R }) a16 b16 c16, .agg #[iv t.1, x16]] (fun W hW => by go_simp; try first | rfl | exact ⟨rfl, rfl, rfl, rfl, rfl, rfl, rfl⟩) (fun W hE hF => ?_) ?_
  · obtain ⟨u', hu1, hu2⟩ := hF _ (List.Mem.head _) (by kernel_rfl)
    obtain ⟨a', b', c', he, h1, h2, h3⟩ := hF _ (List.Mem.tail _ (List.Mem.head _)) (by kernel_rfl)
    obtain ⟨rfl, rfl, rfl⟩ := hv_inj he
    cases hu1
    have := ProveTruth_any ({ h with readings := R }) _ _ _ _ t.1 t.2 W h1 h2 h3 hu2
    rw [show proveR ({ h with readings := R }) (t.1, t.2) = true from HF.out.2.2.2.2.2] at this
    exact this
  simp only [Act.put, List.setIfInBounds_toArray, List.set_cons_succ, List.set_cons_zero]
  repeat (first | (refine tree_det (by rfl) _ (by rfl) (fun W hW => by go_simp; try rfl) ?_; simp only [Act.put, List.setIfInBounds_toArray, List.set_cons_succ, List.set_cons_zero]) | (refine tree_skip (by rfl) (by rfl) ?_; simp only [Act.put, List.setIfInBounds_toArray, List.set_cons_succ, List.set_cons_zero]))
  intro W16 hE hF
  have hb := Ext.below (show Ext [] W15 W16 from hE)
  (try clear hcr hsr)
  have HD16 := Lib.hid hb
  have HB16 := Lib.hid (bgo HB15.out hb)
  obtain ⟨hcr, _, hsr⟩ := cells_of_block ((HB16.out.block w.heap.size (by simp)).trans (heap_new0 w _))
  clear hb
  clear hE hF hcx hct
  have HD516 := Lib.hid (bgo (bgo (bgo (bgo HD6.out HD7.out) (bgo HD8.out HD9.out)) (bgo (bgo HD10.out HD11.out) (bgo HD12.out HD13.out))) (bgo (bgo HD14.out HD15.out) HD16.out))
  have HD816 := Lib.hid (bgo (bgo (bgo HD9.out HD10.out) (bgo HD11.out HD12.out)) (bgo (bgo HD13.out HD14.out) (bgo HD15.out HD16.out)))
  have HP16 := Lib.hid (SlAt.below HV5.out HD516.out (Nat.le_refl _))
  have HB816 := Lib.hid (SlAt.below HV8.out HD816.out (Nat.le_refl _))
  clear hplI hblI
  have hPl10 : P.length ≤ 10 := by have := HLN.out; omega
  go_wp2_with fail
  go_loopw [22, 23] (fun a u wr => ∃ k : Nat, k ≤ P.length ∧ a = .bool ((P.take k).all (inB · h.die h.burn)) ∧ u = .int .i64 k ∧ Below W16.heap.size W16 wr) (fun _ u _ => P.length - (intOf u).toNat)
  case atStart => exact ⟨0, Nat.zero_le _, rfl, rfl, Below.refl _ _⟩
  case round =>
    obtain ⟨k, hk, rfl, rfl, hB⟩ := hrel
    have hb := hB
    (try clear hcr hsr)
    have HD17 := Lib.hid hb
    have HB17 := Lib.hid (bgo HB16.out hb)
    obtain ⟨hcr, _, hsr⟩ := cells_of_block ((HB17.out.block w.heap.size (by simp)).trans (heap_new0 w _))
    clear hb
    obtain ⟨a, ha⟩ : ∃ a, (P.take k).all (inB · h.die h.burn) = a := ⟨_, rfl⟩
    have HA := Lib.hid ha
    rw [ha]
    clear ha
    by_cases hlt : k < P.length
    case neg =>
      obtain rfl : k = P.length := by omega
      have hall : P.all (inB · h.die h.burn) = a := by rw [← HA.out, List.take_length]
      rw [hall] at HKP
      clear hall hB
      rcases HKP.out with ⟨v1, v2⟩ | ⟨v1, v2⟩ | v1
      · subst v1
        subst v2
        go_wp2_with fail
        refine (In_any _ 1 3 _).mono ?_
        rintro e W18 ⟨rfl, hb⟩
        (try clear hcr hsr)
        have HD18 := Lib.hid hb
        have HB18 := Lib.hid (bgo HB17.out hb)
        obtain ⟨hcr, _, hsr⟩ := cells_of_block ((HB18.out.block w.heap.size (by simp)).trans (heap_new0 w _))
        clear hb
        rw [show inB 1 1 3 = true from rfl]
        go_wp2_with fail
        refine (awake_any _).mono ?_
        rintro e W19 ⟨rfl, hb⟩
        (try clear hcr hsr)
        have HD19 := Lib.hid hb
        have HB19 := Lib.hid (bgo HB18.out hb)
        obtain ⟨hcr, _, hsr⟩ := cells_of_block ((HB19.out.block w.heap.size (by simp)).trans (heap_new0 w _))
        clear hb
        go_wp2_with fail
        go_returns
        exact ⟨by simp, bgo (bgoAlloc (Below.refl _ _) _) HB19.out⟩
      · subst v1
        subst v2
        go_wp2_with fail
        refine (In_any _ 1 3 _).mono ?_
        rintro e W18 ⟨rfl, hb⟩
        (try clear hcr hsr)
        have HD18 := Lib.hid hb
        have HB18 := Lib.hid (bgo HB17.out hb)
        obtain ⟨hcr, _, hsr⟩ := cells_of_block ((HB18.out.block w.heap.size (by simp)).trans (heap_new0 w _))
        clear hb
        rw [show inB 2 1 3 = true from rfl]
        go_wp2_with fail
        refine (awake_any _).mono ?_
        rintro e W19 ⟨rfl, hb⟩
        (try clear hcr hsr)
        have HD19 := Lib.hid hb
        have HB19 := Lib.hid (bgo HB18.out hb)
        obtain ⟨hcr, _, hsr⟩ := cells_of_block ((HB19.out.block w.heap.size (by simp)).trans (heap_new0 w _))
        clear hb
        go_wp2_with fail
        go_returns
        exact ⟨by simp, bgo (bgoAlloc (Below.refl _ _) _) HB19.out⟩
      · subst v1
        cases a
        case false =>
          go_wp2_with fail
          refine (In_any _ 1 3 _).mono ?_
          rintro e W18 ⟨rfl, hb⟩
          (try clear hcr hsr)
          have HD18 := Lib.hid hb
          have HB18 := Lib.hid (bgo HB17.out hb)
          obtain ⟨hcr, _, hsr⟩ := cells_of_block ((HB18.out.block w.heap.size (by simp)).trans (heap_new0 w _))
          clear hb
          rw [show inB 3 1 3 = true from rfl]
          go_wp2_with fail
          refine (awake_any _).mono ?_
          rintro e W19 ⟨rfl, hb⟩
          (try clear hcr hsr)
          have HD19 := Lib.hid hb
          have HB19 := Lib.hid (bgo HB18.out hb)
          obtain ⟨hcr, _, hsr⟩ := cells_of_block ((HB19.out.block w.heap.size (by simp)).trans (heap_new0 w _))
          clear hb
          go_wp2_with fail
          go_returns
          exact ⟨by simp, bgo (bgoAlloc (Below.refl _ _) _) HB19.out⟩
        case true =>
          go_wp2_with fail
          refine (In_any _ 1 3 _).mono ?_
          rintro e W18 ⟨rfl, hb⟩
          (try clear hcr hsr)
          have HD18 := Lib.hid hb
          have HB18 := Lib.hid (bgo HB17.out hb)
          obtain ⟨hcr, _, hsr⟩ := cells_of_block ((HB18.out.block w.heap.size (by simp)).trans (heap_new0 w _))
          clear hb
          rw [show inB 3 1 3 = true from rfl]
          go_wp2_with fail
          refine (awake_any _).mono ?_
          rintro e W19 ⟨rfl, hb⟩
          (try clear hcr hsr)
          have HD19 := Lib.hid hb
          have HB19 := Lib.hid (bgo HB18.out hb)
          obtain ⟨hcr, _, hsr⟩ := cells_of_block ((HB19.out.block w.heap.size (by simp)).trans (heap_new0 w _))
          clear hb
          go_wp2_with fail
          go_returns
          exact ⟨by simp, bgo (bgoAlloc (Below.refl _ _) _) HB19.out⟩
    have hltB : k < B.length := by have := HLN.out; omega
    have hltI : (k : Int) < P.length := by omega
    have hltBI : (k : Int) < B.length := by omega
    obtain ⟨b1, f1, rfl, hz1, d1⟩ := IntsAt.cell (SlAt.below HP16.out hB (Nat.le_refl _)) hlt
    obtain ⟨b2, f2, rfl, hz2, d2, d3⟩ := PairsAt.cell (SlAt.below HB816.out hB (Nat.le_refl _)) hltB
    have hin := HIN.out k (by have := HLN.out; omega)
    rw [getD_lt hlt, getD_lt hltB] at hin
    have hnx : (P.take (k + 1)).all (inB · h.die h.burn) = (a && inB P[k] h.die h.burn) := by
      rw [List.take_succ_eq_append_getElem hlt, List.all_append, HA.out]
      simp
    have HNX := Lib.hid hnx
    have HIN2 := Lib.hid hin
    clear hnx hin hB
    obtain ⟨y, hy⟩ : ∃ y, P[k] = y := ⟨_, rfl⟩
    obtain ⟨r, hr⟩ : ∃ r, B[k] = r := ⟨_, rfl⟩
    have HPK := Lib.hid hy
    rw [hy] at d1 HNX HIN2
    rw [hr] at d2 d3 HIN2
    clear hy hr
    obtain ⟨lo, hi⟩ := r
    obtain ⟨b, hbb⟩ : ∃ b, inB y h.die h.burn = b := ⟨_, rfl⟩
    have HIB := Lib.hid hbb
    rw [hbb] at HNX
    clear hbb
    go_wp2_with fail
    refine wp_region_rg 10 [] none [(8, Spec.val (.bool true))] (by kernel_rfl) (by kernel_rfl) ?_
    simp only [List.take_succ_cons, List.take_zero, List.drop_succ_cons, List.drop_zero]
    repeat (first | (refine tree_det (by rfl) _ (by rfl) (fun W hW => by go_simp; try rfl) ?_; simp only [Act.put, List.setIfInBounds_toArray, List.set_cons_succ, List.set_cons_zero]) | (refine tree_skip (by rfl) (by rfl) ?_; simp only [Act.put, List.setIfInBounds_toArray, List.set_cons_succ, List.set_cons_zero]))
    refine tree_val _ (by rfl) (by rfl) 60 _ (fun W hW => by go_simp; try rfl) (fun W hE hF => by exact by have := in_any y (lo, hi) W; rw [HIN2.out] at this; exact this) ?_
    simp only [Act.put, List.setIfInBounds_toArray, List.set_cons_succ, List.set_cons_zero]
    repeat (first | (refine tree_det (by rfl) _ (by rfl) (fun W hW => by go_simp; try rfl) ?_; simp only [Act.put, List.setIfInBounds_toArray, List.set_cons_succ, List.set_cons_zero]) | (refine tree_skip (by rfl) (by rfl) ?_; simp only [Act.put, List.setIfInBounds_toArray, List.set_cons_succ, List.set_cons_zero]))
    intro W18 hE hF
    have hE' : Ext [] wr W18 := hE
    have hb := hE'.below
    (try clear hcr hsr)
    have HD18 := Lib.hid hb
    have HB18 := Lib.hid (bgo HB17.out hb)
    obtain ⟨hcr, _, hsr⟩ := cells_of_block ((HB18.out.block w.heap.size (by simp)).trans (heap_new0 w _))
    clear hb
    obtain ⟨b3, f3, he3, hz3, d1⟩ := IntsAt.cell (SlAt.below (SlAt.below HP16.out HD17.out (Nat.le_refl _)) HD18.out (Nat.le_refl _)) hlt
    cases he3
    rw [HPK.out] at d1
    clear hE hF hE' d2 d3
    go_wp2_with fail
    cases a
    case false =>
      refine wp_region_rg 13 [] none [] (by kernel_rfl) (by kernel_rfl) ?_
      simp only [List.take_succ_cons, List.take_zero, List.drop_succ_cons, List.drop_zero]
      repeat (first | (refine tree_det (by rfl) _ (by rfl) (fun W hW => by go_simp; try rfl) ?_; simp only [Act.put, List.setIfInBounds_toArray, List.set_cons_succ, List.set_cons_zero]) | (refine tree_skip (by rfl) (by rfl) ?_; simp only [Act.put, List.setIfInBounds_toArray, List.set_cons_succ, List.set_cons_zero]))
      intro W19 hE hF
      have HE := Lib.hid (show Ext [] W18 W19 from hE)
      clear hE hF hcr d1
      go_wp2_with fail
      go_roundw
      case rel => exact ⟨k + 1, by omega, by rw [HNX.out]; rfl, by go_num, bgo HD17.out (bgo HD18.out HE.out.below)⟩
      case measure => simp [intOf]; omega
    case true =>
      refine wp_region_rg 13 [] none [(10, Spec.val (.bool b))] (by kernel_rfl) (by kernel_rfl) ?_
      simp only [List.take_succ_cons, List.take_zero, List.drop_succ_cons, List.drop_zero]
      repeat (first | (refine tree_det (by rfl) _ (by rfl) (fun W hW => by go_simp; try rfl) ?_; simp only [Act.put, List.setIfInBounds_toArray, List.set_cons_succ, List.set_cons_zero]) | (refine tree_skip (by rfl) (by rfl) ?_; simp only [Act.put, List.setIfInBounds_toArray, List.set_cons_succ, List.set_cons_zero]))
      refine tree_val _ (by rfl) (by rfl) 43 _ (fun W hW => by go_simp; try rfl) (fun W hE hF => by exact by have := In_any y h.die h.burn W; rw [HIB.out] at this; exact this) ?_
      simp only [Act.put, List.setIfInBounds_toArray, List.set_cons_succ, List.set_cons_zero]
      repeat (first | (refine tree_det (by rfl) _ (by rfl) (fun W hW => by go_simp; try rfl) ?_; simp only [Act.put, List.setIfInBounds_toArray, List.set_cons_succ, List.set_cons_zero]) | (refine tree_skip (by rfl) (by rfl) ?_; simp only [Act.put, List.setIfInBounds_toArray, List.set_cons_succ, List.set_cons_zero]))
      intro W19 hE hF
      have HE := Lib.hid (show Ext [] W18 W19 from hE)
      clear hE hF hcr d1
      go_wp2_with fail
      go_roundw
      case rel => exact ⟨k + 1, by omega, by rw [HNX.out]; rfl, by go_num, bgo HD17.out (bgo HD18.out HE.out.below)⟩
      case measure => simp [intOf]; omega

end Go.Proofs.Ytoibfafmnaooaaa

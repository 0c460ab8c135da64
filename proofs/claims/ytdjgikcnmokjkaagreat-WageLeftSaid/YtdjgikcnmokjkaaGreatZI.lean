/-
  The reference of chapter 9: Payable, Wider, Empty, Full, Bounds; the law's sure.
-/
import Derived.WalkKit
import Derived.WalkLawsBesides
import Derived.WalkSpells
import Derived.Outline
import Derived.Handy
import Derived.KernelRfl
import Derived.Lib.Hide
import Derived.BigRegion
import Derived.Deep.Cut
import Derived.Test.YtdjgikcnmokjkaaGreatZH
namespace Go.Proofs.YtdjgikcnmokjkaaGreat
open Go.RowKit Go.RG Go.SL Go.Shelf Cou Go.TB
set_option maxHeartbeats 400000
set_option maxRecDepth 10000

theorem payable_L {l : LedgerD} (hS : SoundL l) {ds : List Int} (hd : ∀ x ∈ ds, 0 ≤ x ∧ x ≤ 350) (but more : Int) :
    ((List.range ((sumI ds).toNat + 1)).any fun (s : Nat) => (canN l 0 ds but ((sumI ds).toNat + 1) ds.length).getD s false && inB ((s : Int) + more) l.box.1 l.box.2) = hasB l.box (othTo l 0 ds but ds.length) more := by
  have h0 : 0 ≤ sumI ds := by
    have : ∀ xs : List Int, (∀ x ∈ xs, 0 ≤ x ∧ x ≤ 350) → 0 ≤ sumI xs := by
      intro xs
      induction xs with
      | nil => intro _; simp [sumI]
      | cons a xs ih => intro h; have := ih fun x hx => h x (by simp [hx]); have := h a (by simp); rw [sumI_cons]; omega
    exact this _ hd
  exact has_canN hS 0 hd but more (by omega)
theorem sumI_max {ds : List Int} (hd : ∀ x ∈ ds, 0 ≤ x ∧ x ≤ 350) : sumI ds ≤ 350 * ds.length := by
  have : ∀ xs : List Int, (∀ x ∈ xs, 0 ≤ x ∧ x ≤ 350) → sumI xs ≤ 350 * xs.length := by
    intro xs
    induction xs with
    | nil => intro _; simp [sumI]
    | cons a xs ih => intro h; have := ih fun x hx => h x (by simp [hx]); have := h a (by simp); rw [sumI_cons]; simp only [List.length_cons]; push_cast; omega
  exact this _ hd

theorem pay_pack {l : LedgerD} (hS : SoundL l) (tv nv rvv : Value) (t : List Int) (wd : Nat) (w : World) (hn : TriplesAt w nv l.notes) (hr : IntsAt w rvv t) (ht : t ∈ truthsF l.field []) (hwd : wd < l.field.weeders.toNat) :
    ∃ (n L D : Nat) (CS : List Bool) (F H : Nat → Bool) (ds : List Int), n ≤ 3 ∧ wd < n ∧ CS.length = L ∧ L ≤ 5000 ∧ D ≤ 350 ∧ ds.length = n ∧ ds[wd]? = some (D : Int) ∧
      (∀ W, Below w.heap.size w W → Calls Tryz.prog 59 #[lv l tv nv, rvv] W (fun e w' => ∃ u, e = .returned u ∧ w'.ownsRow W.heap.size 3 1 u n (intCells ds) ∧ Below W.heap.size W w')) ∧
      (∀ W v, Below w.heap.size w W → SlAt 1 W v n (intCells ds) → Calls Tryz.prog 105 #[lv l tv nv, iv 0, v, iv wd] W (PBools CS W)) ∧
      (∀ (W : World) (p : Nat), Below w.heap.size w W → Calls Tryz.prog 106 #[lv l tv nv, iv 0, iv wd, iv D, iv p] W (PV (.bool (F p)) W)) ∧
      (∀ (W : World) (g p : Nat), p ≤ 350 → W.heap[g]? = some (.cells (boolCells CS).toArray 4 (0, 0)) → Calls Tryz.prog 104 #[lv l tv nv, .slice (some ⟨g, 0, none⟩) L L, iv p] W (PV (.bool (H p)) W)) ∧
      (∀ p, payB l (dueV l t) wd p = (F p && H p)) ∧ payL l (dueV l t) wd = payTo9 l (dueV l t) wd (D + 1) := by
  have hF := soundF_of hS.field
  have h3 := hF.weed1
  have h0 := hF.weed0
  have h7 := row_len hS ht
  have hdl := dueV_length hS t
  have hdb := dueV_bd hS h7
  have hdz := duesZ_eq (l := l) hF (truthsF_len ht)
  have hsm := sumI_max hdb
  have hwl : wd < (dueV l t).length := by rw [hdl]; exact hwd
  have hdw := hdb _ (List.getElem_mem hwl)
  have gdw : (dueV l t).getD wd 0 = (dueV l t)[wd] := by simp [List.getD, hwl]
  have h5 := hS.many
  have hr' := hS.rate
  obtain ⟨D, hD⟩ : ∃ D : Nat, (dueV l t)[wd] = D := ⟨((dueV l t)[wd]).toNat, by omega⟩
  refine ⟨l.field.weeders.toNat, (sumI (dueV l t)).toNat + 1, D, canN l 0 (dueV l t) (wd : Int) ((sumI (dueV l t)).toNat + 1) (dueV l t).length, fun p => fitB l 0 wd (D : Int) (p : Int), fun p => hasB l.box (othTo l 0 (dueV l t) (wd : Int) (dueV l t).length) (p : Int), dueV l t, by omega, hwd, canN_len .., by omega, by omega, hdl, by rw [List.getElem?_eq_getElem hwl, hD], fun W hW => ?_, fun W v hW hv => ?_, fun W p hW => ?_, fun W g p hp hg => ?_, fun p => ?_, ?_⟩
  · have := zDues_any l tv nv rvv t W (hr.below hW (Nat.le_refl _)) (by omega) (by omega) h3 (by omega) (by omega)
    rw [hdz] at this
    exact this
  · exact Sums_any hS tv nv v 0 (dueV l t) (wd : Int) W (hn.below hW (Nat.le_refl _)) (by unfold IntsAt; rw [hdl]; exact hv) hdb (by omega) (by decide)
  · exact fits_any l tv nv 0 wd (D : Int) (p : Int) W (hn.below hW (Nat.le_refl _)) (by decide) (by omega) (by omega)
  · have := Has_any l tv nv _ g (p : Int) W hg (by rw [canN_len]; omega) (by omega)
    rw [canN_len, payable_L hS hdb (wd : Int) (p : Int)] at this
    exact this
  · unfold payB
    rw [gdw, hD]
  · unfold payL
    rw [gdw, hD, Int.toNat_natCast]

set_option maxHeartbeats 8000000 in
theorem Payable_any {l : LedgerD} (hS : SoundL l) (tv nv rvv : Value) (t : List Int) (wd : Nat) (w : World) (hn : TriplesAt w nv l.notes) (hr : IntsAt w rvv t) (ht : t ∈ truthsF l.field []) (hwd : wd < l.field.weeders.toNat) :
    Calls Tryz.prog 60 #[lv l tv nv, rvv, iv wd] w (POwnI (payL l (dueV l t) wd) w) := by
  obtain ⟨on, cn, rfl⟩ := hn.open
  obtain ⟨ro, rc, rfl⟩ := hr.open
  obtain ⟨n, L, D, CS, F, H, ds, hn3, hwn, hCL, hL5, hD5, hdl, hdg, hdu, hsu, hfi, hha, hpay, hpl⟩ := pay_pack hS tv (.slice on l.notes.length cn) (.slice ro t.length rc) t wd w hn hr ht hwd
  rw [hpl]
  have hyes := fun (p : Nat) (h : (F p && H p) = true) => payTo9_yes (l := l) (ds := dueV l t) (w := wd) (k := p) (by rw [hpay]; exact h)
  have hno := fun (p : Nat) (h : (F p && H p) = false) => payTo9_no (l := l) (ds := dueV l t) (w := wd) (k := p) (by rw [hpay]; exact h)
  have hplen := fun (p : Nat) => payTo9_len l (dueV l t) wd p
  have hp0 : payTo9 l (dueV l t) wd 0 = [] := rfl
  obtain ⟨PT, hPT⟩ : ∃ PT : Nat → List Int, (fun p => payTo9 l (dueV l t) wd p) = PT := ⟨_, rfl⟩
  have ePT : ∀ p, payTo9 l (dueV l t) wd p = PT p := fun p => congrFun hPT p
  simp only [ePT] at hyes hno hplen hp0 ⊢
  have HP := Lib.hid (And.intro hyes (And.intro hno (And.intro hplen hp0)))
  have HDU := Lib.hid hdu
  have HSU := Lib.hid hsu
  have HFI := Lib.hid hfi
  have HHA := Lib.hid hha
  have HCL := Lib.hid hCL
  have HDL := Lib.hid (And.intro hdl hdg)
  clear hn hr hS ht hwd hCL hdl hdg hdu hsu hfi hha hpay hpl hyes hno hplen hp0 hPT ePT
  go_enter Tryz.func60, Tryz.ntmps60
  go_wp2_with fail
  refine gworldC fun w1 hw1 => ?_
  have hk0 : w1.heap[w.heap.size]? = some (.cells (lcells l tv (.slice on l.notes.length cn)) 30 (0, 0)) := by rw [hw1]; exact heap_new0 w _
  have hB1 : Below w.heap.size w w1 := by rw [hw1]; exact bgoAlloc (Below.refl _ _) _
  have HK1 := Lib.hid (Keeps.one hB1 hk0)
  clear hw1 hB1 hk0
  refine (HDU.out w1 HK1.out.below).mono ?_
  rintro e W2 ⟨u, rfl, hu, hb⟩
  obtain ⟨od, cd, rfl⟩ := owns_slice hu
  have HU := Lib.hid (SlAt.of_owns hu)
  clear hu
  have HK2 := Lib.hid (HK1.out.next hb)
  clear hb
  (try clear c0 f0)
  obtain ⟨c0, f0, l0⟩ := cells_of_block HK2.out.blk
  go_wp2_with fail
  refine (HSU.out W2 (.slice od n cd) HK2.out.below HU.out).mono ?_
  rintro e W3 ⟨g, rfl, hg, hgw, hb⟩
  rw [HCL.out]
  have HU3 := Lib.hid (HU.out.below hb (Nat.le_refl _))
  have HG := Lib.hid hg
  clear hg hgw
  have HK3 := Lib.hid (HK2.out.next hb)
  clear hb
  (try clear c0 f0)
  obtain ⟨c0, f0, l0⟩ := cells_of_block HK3.out.blk
  have HK3 := Lib.hid (HK3.out.add (And.intro HG.out HU3.out) (fun W' h => And.intro (last_block HG.out W' h) (last_at HU3.out W' h)))
  go_wp2_with fail
  clear c0 f0
  go_loopw [9, 10] (fun v9 u wr => ∃ k : Nat, k ≤ D + 1 ∧ u = .int .i64 k ∧ (∃ oo oc, v9 = .slice oo (PT k).length oc ∧ wr.ownsRow W3.heap.size 3 1 (.slice oo (PT k).length oc) (PT k).length (intCells (PT k))) ∧ Below W3.heap.size W3 wr) (fun _ u _ => D + 1 - (intOf u).toNat)
  case atStart => exact ⟨0, Nat.zero_le _, rfl, ⟨none, 0, by rw [HP.out.2.2.2]; rfl, by rw [HP.out.2.2.2]; exact ⟨rfl, .inl ⟨rfl, rfl⟩⟩⟩, Below.refl _ _⟩
  case round =>
    obtain ⟨k, hk, rfl, ⟨oo, oc, rfl, how⟩, hB⟩ := hrel
    have HKR := Lib.hid (HK3.out.next hB)
    obtain ⟨c0, f0, l0'⟩ := cells_of_block HKR.out.blk
    have hwdn : wd < ds.length := by rw [HDL.out.1]; exact hwn
    obtain ⟨b, off, hv, hb1, d0⟩ := IntsAt.cell (show SlAt 1 wr (.slice od n cd) n (intCells ds) from HKR.out.is.1.2) hwdn
    have hdd : ds[wd] = (D : Int) := by have := HDL.out.2; rw [List.getElem?_eq_getElem hwdn] at this; exact Option.some.inj this
    rw [hdd] at d0
    have HK := Lib.hid (And.intro how hB)
    have hwdI : (wd : Int) < n := by omega
    cases hv
    clear how hB hdd hwdn
    by_cases hlt : k ≤ D
    · have hltI : (k : Int) ≤ D := by omega
      have HF := Lib.hid (fun (W : World) (h : Below wr.heap.size wr W) => HFI.out W k (bgo HKR.out.below h))
      have HH := Lib.hid (fun (W : World) (h : W.heap[g]? = some (.cells (boolCells CS).toArray 4 (0, 0))) => HHA.out W g k (by omega) h)
      have hy := HP.out.1 k
      have hno := HP.out.2.1 k
      have hpl := HP.out.2.2.1 k
      obtain ⟨fb, hfb⟩ : ∃ fb, F k = fb := ⟨_, rfl⟩
      obtain ⟨hb', hhb⟩ : ∃ hb', H k = hb' := ⟨_, rfl⟩
      rw [hfb] at HF hy hno
      rw [hhb] at HH hy hno
      have HY := Lib.hid (And.intro hy hno)
      clear hy hno hfb hhb
      cases fb
      · have HV := Lib.hid (HY.out.2 rfl)
        go_wp2_with fail
        refine wp_region_rg 14 [] none [(7, Spec.val (.bool false))] (by as_aux_lemma => kernel_rfl) (by as_aux_lemma => kernel_rfl) ?_
        simp only [List.take_succ_cons, List.take_zero, List.drop_succ_cons, List.drop_zero]
        repeat (first | (refine tree_det (by rfl) _ (by rfl) (fun W hW => by go_simp; (try simp (disch := omega) only [IntWalk.i64_in]); try rfl) ?_; simp only [Act.put, List.setIfInBounds_toArray, List.set_cons_succ, List.set_cons_zero]) | (refine tree_skip (by rfl) (by rfl) ?_; simp only [Act.put, List.setIfInBounds_toArray, List.set_cons_succ, List.set_cons_zero]))
        refine tree_val _ (by rfl) (by rfl) 106 #[lv l tv (.slice on l.notes.length cn), iv 0, iv wd, iv D, iv k] (fun W hW => by go_simp; try rfl) (fun W hE hF => by exact HF.out W (Ext.below (show Ext [] wr W from hE))) ?_
        simp only [Act.put, List.setIfInBounds_toArray, List.set_cons_succ, List.set_cons_zero]
        repeat (first | (refine tree_det (by rfl) _ (by rfl) (fun W hW => by go_simp; (try simp (disch := omega) only [IntWalk.i64_in]); try rfl) ?_; simp only [Act.put, List.setIfInBounds_toArray, List.set_cons_succ, List.set_cons_zero]) | (refine tree_skip (by rfl) (by rfl) ?_; simp only [Act.put, List.setIfInBounds_toArray, List.set_cons_succ, List.set_cons_zero]))
        intro X hE hF
        have HXX := Lib.hid (Ext.below (show Ext [] wr X from hE))
        clear hE hF c0 f0 d0
        go_wp2_with fail
        go_roundw
        case rel => exact ⟨k + 1, by omega, by go_num, ⟨oo, oc, by rw [HV.out], by rw [HV.out]; exact owns_keep HK.out.1 fun g hg => HXX.out.block g (owns_ge HK.out.1 g hg).2⟩, bgo HK.out.2 HXX.out⟩
        case measure => simp [intOf]; omega
      · go_wp2_with fail
        refine wp_region_rg 14 [] none [(7, Spec.val (.bool true)), (12, Spec.val (.bool hb'))] (by as_aux_lemma => kernel_rfl) (by as_aux_lemma => kernel_rfl) ?_
        simp only [List.take_succ_cons, List.take_zero, List.drop_succ_cons, List.drop_zero]
        repeat (first | (refine tree_det (by rfl) _ (by rfl) (fun W hW => by go_simp; (try simp (disch := omega) only [IntWalk.i64_in]); try rfl) ?_; simp only [Act.put, List.setIfInBounds_toArray, List.set_cons_succ, List.set_cons_zero]) | (refine tree_skip (by rfl) (by rfl) ?_; simp only [Act.put, List.setIfInBounds_toArray, List.set_cons_succ, List.set_cons_zero]))
        refine tree_val _ (by rfl) (by rfl) 106 #[lv l tv (.slice on l.notes.length cn), iv 0, iv wd, iv D, iv k] (fun W hW => by go_simp; try rfl) (fun W hE hF => by exact HF.out W (Ext.below (show Ext [] wr W from hE))) ?_
        simp only [Act.put, List.setIfInBounds_toArray, List.set_cons_succ, List.set_cons_zero]
        repeat (first | (refine tree_det (by rfl) _ (by rfl) (fun W hW => by go_simp; (try simp (disch := omega) only [IntWalk.i64_in]); try rfl) ?_; simp only [Act.put, List.setIfInBounds_toArray, List.set_cons_succ, List.set_cons_zero]) | (refine tree_skip (by rfl) (by rfl) ?_; simp only [Act.put, List.setIfInBounds_toArray, List.set_cons_succ, List.set_cons_zero]))
        refine tree_val _ (by rfl) (by rfl) 104 #[lv l tv (.slice on l.notes.length cn), .slice (some ⟨g, 0, none⟩) L L, iv k] (fun W hW => by go_simp; try rfl) (fun W hE hF => by exact HH.out W (HKR.out.next (Ext.below (show Ext [] wr W from hE))).is.1.1) ?_
        simp only [Act.put, List.setIfInBounds_toArray, List.set_cons_succ, List.set_cons_zero]
        repeat (first | (refine tree_det (by rfl) _ (by rfl) (fun W hW => by go_simp; (try simp (disch := omega) only [IntWalk.i64_in]); try rfl) ?_; simp only [Act.put, List.setIfInBounds_toArray, List.set_cons_succ, List.set_cons_zero]) | (refine tree_skip (by rfl) (by rfl) ?_; simp only [Act.put, List.setIfInBounds_toArray, List.set_cons_succ, List.set_cons_zero]))
        intro X hE hF
        have HXX := Lib.hid (Ext.below (show Ext [] wr X from hE))
        clear hE hF c0 f0 d0
        cases hb'
        · have HV := Lib.hid (HY.out.2 rfl)
          go_wp2_with fail
          go_roundw
          case rel => exact ⟨k + 1, by omega, by go_num, ⟨oo, oc, by rw [HV.out], by rw [HV.out]; exact owns_keep HK.out.1 fun g hg => HXX.out.block g (owns_ge HK.out.1 g hg).2⟩, bgo HK.out.2 HXX.out⟩
          case measure => simp [intOf]; omega
        · have HV := Lib.hid (HY.out.1 rfl)
          have how2 := owns_keep (w' := X) HK.out.1 fun g hg => HXX.out.block g (owns_ge HK.out.1 g hg).2
          have HX2 := Lib.hid (And.intro how2 (bgo HK.out.2 HXX.out))
          have hsz2 := HX2.out.2.size
          clear how2
          go_wp2_with (at_builtin; go_loud (refine wpList_append_at rfl _ _ tInts rfl W3.heap.size (.slice oo (PT k).length oc) (PT k).length (intCells (PT k)) rfl (owns_ext (Ms := []) HX2.out.1 (Ext.of_below ((Below.refl _ _).alloc (Nat.le_refl _) _)) (by simp)) (.slice (some ⟨X.heap.size, 0, none⟩) 1 1) 1 (intCells [(k : Int)]) rfl (SlAt.of_block 1 1 (heap_new0 _ _) rfl (by decide)) (one_ints _) (by omega) (by omega) (by simp; omega) ?_))
          intro v' Wc hown hgr hcase
          obtain ⟨oo3, oc3, rfl⟩ := owns_slice hown
          rw [← intCells_app, ← HV.out] at hown
          have hwB : Below X.heap.size X (X.alloc (.cells #[iv k] 3)) := bgoAlloc (Below.refl _ _) _
          have HZ := Lib.hid (And.intro hown (Below.grown (bgo HX2.out.2 hwB) hgr (by have := hwB.size; omega) (fun g e => (owns_ge HX2.out.1 g e).1)))
          clear hown hgr hcase hwB
          go_wp2_with fail
          go_roundw
          case rel =>
            have hE : (PT (k + 1)).length = (PT k).length + 1 := by rw [HV.out]; simp
            exact ⟨k + 1, by omega, by go_num, ⟨oo3, oc3, by rw [hE], by rw [hE]; exact HZ.out.1⟩, HZ.out.2⟩
          case measure => simp [intOf]; omega
    · have hkn : k = D + 1 := by omega
      have hnl : ¬ (k : Int) ≤ D := by omega
      have hsz3 := HK3.out.below.size
      subst hkn
      go_wp2_with fail
      go_returns
      exact ⟨_, by simp, owns_base HK.out.1 hsz3, HKR.out.below⟩

theorem min_goZ (ats : Array TypeId) (ty : TypeId) (a b : Int) : Builtin.min_ ats ty #[.int .i64 a, .int .i64 b] = pure (.int .i64 (min a b)) := by
  have h : Builtin.min_ ats ty #[.int .i64 a, .int .i64 b] = pure (.int .i64 (if b < a then b else a)) := rfl
  rw [h]
  have e : (if b < a then b else a) = min a b := by
    by_cases c : b < a
    · rw [if_pos c]; omega
    · rw [if_neg c]; omega
  rw [e]
theorem max_goZ (ats : Array TypeId) (ty : TypeId) (a b : Int) : Builtin.max_ ats ty #[.int .i64 a, .int .i64 b] = pure (.int .i64 (max a b)) := by
  have h : Builtin.max_ ats ty #[.int .i64 a, .int .i64 b] = pure (.int .i64 (if a < b then b else a)) := rfl
  rw [h]
  have e : (if a < b then b else a) = max a b := by
    by_cases c : a < b
    · rw [if_pos c]; omega
    · rw [if_neg c]; omega
  rw [e]
section
attribute [local go_sem ↓] min_goZ max_goZ
theorem zWider_any (r : Rng) (n : Int) (w : World) : Calls Tryz.prog 29 #[rv r, iv n] w (PV (rv (wid r n)) w) := by
  obtain ⟨a, b⟩ := r
  go_enter Tryz.func29, Tryz.ntmps29
  go_wp2_with fail
  go_returns
  exact ⟨by simp [wid], (by repeat (first | exact Below.refl _ _ | assumption | refine bgo ?_ (by assumption) | refine bgoAlloc ?_ _ | refine bgoDrew ?_ | refine bgoSet ?_ (by simp; omega) _))⟩
end
theorem zEmpty_any (w : World) : Calls Tryz.prog 28 #[] w (PV (rv emptyR) w) := by
  go_enter Tryz.func28, Tryz.ntmps28
  go_wp2_with fail
  go_returns
  exact ⟨by simp [emptyR], (by repeat (first | exact Below.refl _ _ | assumption | refine bgo ?_ (by assumption) | refine bgoAlloc ?_ _ | refine bgoDrew ?_ | refine bgoSet ?_ (by simp; omega) _))⟩
theorem zFull_any (l : LedgerD) (tv nv : Value) (w : World) (hn : TriplesAt w nv l.notes) (h5 : l.notes.length ≤ 7) : Calls Tryz.prog 63 #[lv l tv nv] w (PV (iv (2 ^ l.notes.length - 1)) w) := by
  obtain ⟨on, cn, rfl⟩ := hn.open
  clear hn
  obtain ⟨hp1, hp2⟩ := pow_bd h5
  obtain ⟨nn, hnn⟩ : ∃ nn, l.notes.length = nn := ⟨_, rfl⟩
  rw [hnn] at h5 hp1 hp2 ⊢
  clear hnn
  go_enter Tryz.func63, Tryz.ntmps63
  go_wp2_with fail
  go_returns
  exact ⟨by simp, (by repeat (first | exact Below.refl _ _ | assumption | refine bgo ?_ (by assumption) | refine bgoAlloc ?_ _ | refine bgoDrew ?_ | refine bgoSet ?_ (by simp; omega) _))⟩
end Go.Proofs.YtdjgikcnmokjkaaGreat

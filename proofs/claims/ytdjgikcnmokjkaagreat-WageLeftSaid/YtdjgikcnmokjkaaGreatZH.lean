/-
  The reference of chapter 9: Can, Rows, Payable, Wider, Empty, Full.
-/
import Derived.WalkKit
import Derived.WalkLawsBesides
import Derived.WalkSpells
import Derived.Outline
import Derived.Handy
import Derived.KernelRfl
import Derived.Lib.Hide
import Derived.BigRegion
import Derived.Deep.Cut
import Derived.Test.YtdjgikcnmokjkaaGreatZG
import Derived.Test.YtdjgikcnmokjkaaGreatKE
namespace Go.Proofs.YtdjgikcnmokjkaaGreat
open Go.RowKit Go.RG Go.SL Go.Shelf Cou Go.TB
set_option maxHeartbeats 400000
set_option maxRecDepth 10000

theorem has_sums {l : LedgerD} (hS : SoundL l) (m : Nat) {t : List Int} (ht : t ∈ truthsF l.field []) {L : Nat} (hL : (sumI (dueV l t)).toNat + 1 = L) :
    ((List.range L).any fun (s : Nat) => (canN l m (dueV l t) (-1) L (dueV l t).length).getD s false && inB ((s : Int) + 0) l.box.1 l.box.2) = canPay l (bitsL m) (dueV l t) := by
  have hb := dueV_bd hS (row_len hS ht)
  have h0 : 0 ≤ sumI (dueV l t) := by
    have : ∀ xs : List Int, (∀ x ∈ xs, 0 ≤ x ∧ x ≤ 350) → 0 ≤ sumI xs := by
      intro xs
      induction xs with
      | nil => intro _; simp [sumI]
      | cons a xs ih => intro h; have := ih fun x hx => h x (by simp [hx]); have := h a (by simp); rw [sumI_cons]; omega
    exact this _ hb
  rw [has_canN hS m hb (-1) 0 (by omega), othTo_othR l m _ _ (dueV_length hS t), hasB_can]

/-- What a round of Can, or of Rows, works with. -/
theorem round_sums {l : LedgerD} (hS : SoundL l) (tv nv tvv : Value) (m : Nat) (hm : (m : Int) ≤ 1000) {t : List Int} (ht : t ∈ truthsF l.field []) (wr : World) (hn : TriplesAt wr nv l.notes) (hi : IntsAt wr tvv t) :
    ∃ (n L : Nat) (D : List Int) (CS : List Bool), n ≤ 3 ∧ CS.length = L ∧ (∀ W, Below wr.heap.size wr W → Calls Tryz.prog 59 #[lv l tv nv, tvv] W (fun e w' => ∃ u, e = .returned u ∧ w'.ownsRow W.heap.size 3 1 u n (intCells D) ∧ Below W.heap.size W w')) ∧
      (∀ W v, Below wr.heap.size wr W → SlAt 1 W v n (intCells D) → Calls Tryz.prog 105 #[lv l tv nv, iv m, v, iv (-1)] W (PBools CS W)) ∧
      (∀ W (g : Nat), W.heap[g]? = some (.cells (boolCells CS).toArray 4 (0, 0)) → Calls Tryz.prog 104 #[lv l tv nv, .slice (some ⟨g, 0, none⟩) L L, iv 0] W (PV (.bool (canPay l (bitsL m) (dueV l t))) W)) := by
  have hF := soundF_of hS.field
  have h3 := hF.weed1
  have h0 := hF.weed0
  have hr := hS.rate
  have h7 := row_len hS ht
  have hb := dueV_bd hS h7
  have hdl := dueV_length hS t
  have hd := duesZ_eq (l := l) hF (truthsF_len ht)
  have h35 : sumI (dueV l t) ≤ 350 * (dueV l t).length := by
    have : ∀ xs : List Int, (∀ x ∈ xs, 0 ≤ x ∧ x ≤ 350) → sumI xs ≤ 350 * xs.length := by
      intro xs
      induction xs with
      | nil => intro _; simp [sumI]
      | cons a xs ih => intro h; have := ih fun x hx => h x (by simp [hx]); have := h a (by simp); rw [sumI_cons]; simp only [List.length_cons]; push_cast; omega
    exact this _ hb
  refine ⟨l.field.weeders.toNat, (sumI (dueV l t)).toNat + 1, dueV l t, canN l m (dueV l t) (-1) ((sumI (dueV l t)).toNat + 1) (dueV l t).length, by omega, canN_len .., fun W hW => ?_, fun W v hW hv => ?_, fun W g hg => ?_⟩
  · have := zDues_any l tv nv tvv t W (hi.below hW (Nat.le_refl _)) (by omega) (by omega) (by omega) (by omega) (by omega)
    rw [hd] at this
    exact this
  · exact Sums_any hS tv nv v m (dueV l t) (-1) W (hn.below hW (Nat.le_refl _)) (by unfold IntsAt; rw [hdl]; exact hv) hb (by omega) hm
  · have := Has_any l tv nv _ g 0 W hg (by rw [canN_len]; omega) (by omega)
    rw [canN_len, has_sums hS m ht rfl] at this
    exact this

set_option maxHeartbeats 4000000 in
theorem Can_any {l : LedgerD} (hS : SoundL l) (tv nv ev : Value) (es : List LE) (M : Nat) (w : World) (hn : TriplesAt w nv l.notes) (he : ListsAt w ev es) (hes : es.map (·.2) = rtruths l.field) (hm : (M : Int) ≤ 1000) :
    Calls Tryz.prog 90 #[lv l tv nv, ev, iv M] w (PV (.bool (possibleL l (bitsL M))) w) := by
  obtain ⟨on, cn, rfl⟩ := hn.open
  obtain ⟨eo, ec, rfl⟩ := he.1.open
  have hel := he.1.len
  have hF := soundF_of hS.field
  have HX := Lib.hid (And.intro hn he)
  have hmem := fun (j : Nat) (hj : j < es.length) => show es[j].2 ∈ truthsF l.field [] from (mem_rtruths hF).1 (by rw [← hes]; exact List.mem_map.2 ⟨_, List.getElem_mem hj, rfl⟩)
  have HMEM := Lib.hid hmem
  have HPK := Lib.hid (fun (j : Nat) (hj : j < es.length) (tvv : Value) (wr : World) (h1 : TriplesAt wr (.slice on l.notes.length cn) l.notes) (h2 : IntsAt wr tvv es[j].2) => round_sums hS tv (.slice on l.notes.length cn) tvv M hm (hmem j hj) wr h1 h2)
  obtain ⟨r, hr⟩ : ∃ r, possibleL l (bitsL M) = r := ⟨_, rfl⟩
  rw [hr]
  have HR := Lib.hid (show es.any (fun e => canPay l (bitsL M) (dueV l e.2)) = r from by
    rw [← hr, ← can_possible hS, ← hes, List.any_map]
    rfl)
  clear hn he hr hmem hF hes
  go_enter Tryz.func90, Tryz.ntmps90
  go_wp2_with fail
  have hk0 := heap_new0 w (.cells (lcells l tv (.slice on l.notes.length cn)) 30)
  obtain ⟨w1, hw1⟩ : ∃ w1, w.alloc (.cells (lcells l tv (.slice on l.notes.length cn)) 30) = w1 := ⟨_, rfl⟩
  have hB1 : Below w.heap.size w w1 := by rw [← hw1]; exact bgoAlloc (Below.refl _ _) _
  rw [hw1] at hk0
  first | rw [hw1] | skip
  have hl0 := (cells_of_block hk0).2.2
  have H1 := Lib.hid (And.intro hB1 hk0)
  clear hw1 hB1 hk0
  go_loopw [7] (fun u wr => ∃ k : Nat, k ≤ es.length ∧ u = .int .i64 k ∧ (es.take k).any (fun e => canPay l (bitsL M) (dueV l e.2)) = false ∧ Below w1.heap.size w1 wr) (fun u _ => es.length - (intOf u).toNat)
  case atStart => exact ⟨0, Nat.zero_le _, rfl, rfl, Below.refl _ _⟩
  case round =>
    obtain ⟨k, hk, rfl, hno, hB⟩ := hrel
    have hk0 := (hB.block _ hl0).trans H1.out.2
    obtain ⟨c0, f0, l0⟩ := cells_of_block hk0
    have hBw := bgo H1.out.1 hB
    by_cases hlt : k < es.length
    · obtain ⟨b, off, hv, hb1, d0⟩ := ListsAt.cell (SlAt.below HX.out.2.1 hBw (Nat.le_refl _)) hlt
      have hia := (HX.out.2.2 _ (List.getElem_mem hlt)).below hBw (Nat.le_refl _)
      obtain ⟨n, L, D, CS, hn3, hCL, hdu, hsu, hha⟩ := HPK.out k hlt es[k].1 wr (HX.out.1.below hBw (Nat.le_refl _)) hia
      have htk : (es.take (k + 1)).any (fun e => canPay l (bitsL M) (dueV l e.2)) = canPay l (bitsL M) (dueV l es[k].2) := by rw [List.take_succ_eq_append_getElem hlt, List.any_append, hno]; simp
      have hyes := fun (hc : canPay l (bitsL M) (dueV l es[k].2) = true) => show es.any (fun e => canPay l (bitsL M) (dueV l e.2)) = true from List.any_eq_true.2 ⟨_, List.getElem_mem hlt, hc⟩
      have hmt := HMEM.out k hlt
      generalize es[k] = ee at *
      obtain ⟨vt, t⟩ := ee
      simp only at hia d0 hdu htk hyes
      obtain ⟨o3, c3, rfl⟩ := hia.open
      obtain ⟨q, hq⟩ : ∃ q, canPay l (bitsL M) (dueV l t) = q := ⟨_, rfl⟩
      rw [hq] at hha htk hyes
      have HDU := Lib.hid hdu
      have HSU := Lib.hid hsu
      have HHA := Lib.hid hha
      have HCL := Lib.hid hCL
      have HK := Lib.hid (And.intro htk (And.intro hyes hB))
      have hltI : (k : Int) < es.length := by omega
      cases hv
      clear hia hdu hsu hha hCL htk hyes hno hB hBw hk0 hq hmt
      go_wp2_with fail
      refine wp_region_rg 11 [] none [(8, ⟨fun _ v => ∃ o c, v = .slice o n c, fun _ v Wx => SlAt 1 Wx v n (intCells D)⟩), (9, ⟨fun _ v => ∃ g, v = .slice (some ⟨g, 0, none⟩) L L, fun _ v Wx => ∃ g, v = .slice (some ⟨g, 0, none⟩) L L ∧ Wx.heap[g]? = some (.cells (boolCells CS).toArray 4 (0, 0))⟩), (10, Spec.val (.bool q))] (by as_aux_lemma => kernel_rfl) (by as_aux_lemma => kernel_rfl) ?_
      simp only [List.take_succ_cons, List.take_zero, List.drop_succ_cons, List.drop_zero]
      repeat (first | (refine tree_det (by rfl) _ (by rfl) (fun W hW => by go_simp; (try simp (disch := omega) only [IntWalk.i64_in]); try rfl) ?_; simp only [Act.put, List.setIfInBounds_toArray, List.set_cons_succ, List.set_cons_zero]) | (refine tree_skip (by rfl) (by rfl) ?_; simp only [Act.put, List.setIfInBounds_toArray, List.set_cons_succ, List.set_cons_zero]))
      refine tree_some _ (by rfl) (by rfl) (by exact ⟨.slice none n 0, none, 0, rfl⟩) (fun Wa hE hF => ?_) (fun v Wa Wb ho hE => SlAt.below ho (Ext.below (show Ext [] Wa Wb from hE)) (Nat.le_refl _)) (fun v hv => ?_)
      · have hE' : Ext [] wr Wa := hE
        refine does_enter 59 #[lv l tv (.slice on l.notes.length cn), .slice o3 t.length c3] (by go_simp; try rfl) ?_
        refine (HDU.out Wa hE'.below).mono ?_
        rintro e W' ⟨u, rfl, hu, hb⟩
        exact ⟨_, rfl, owns_slice hu, SlAt.of_owns hu, Ext.of_below hb⟩
      obtain ⟨od, cd, rfl⟩ := hv
      simp only [Act.put, List.setIfInBounds_toArray, List.set_cons_succ, List.set_cons_zero]
      repeat (first | (refine tree_det (by rfl) _ (by rfl) (fun W hW => by go_simp; (try simp (disch := omega) only [IntWalk.i64_in]); try rfl) ?_; simp only [Act.put, List.setIfInBounds_toArray, List.set_cons_succ, List.set_cons_zero]) | (refine tree_skip (by rfl) (by rfl) ?_; simp only [Act.put, List.setIfInBounds_toArray, List.set_cons_succ, List.set_cons_zero]))
      refine tree_some _ (by rfl) (by rfl) (by exact ⟨.slice (some ⟨0, 0, none⟩) L L, 0, rfl⟩) (fun Wa hE hF => ?_) (fun v Wa Wb ho hE => ?_) (fun v hv => ?_)
      · have hE' : Ext [] wr Wa := hE
        have hu : SlAt 1 Wa (.slice od n cd) n (intCells D) := hF _ (List.Mem.head _) (by kernel_rfl)
        refine does_enter 105 #[lv l tv (.slice on l.notes.length cn), iv M, .slice od n cd, iv (-1)] (by go_simp; try rfl) ?_
        refine (HSU.out Wa (.slice od n cd) hE'.below hu).mono ?_
        rintro e W' ⟨g, rfl, hg, hgw, hb⟩
        rw [HCL.out]
        exact ⟨_, rfl, ⟨g, rfl⟩, ⟨g, rfl, hg⟩, Ext.of_below hb⟩
      · obtain ⟨g, e, hg⟩ := ho
        exact ⟨g, e, ((show Ext [] Wa Wb from hE).block g (cells_of_block hg).2.2 (by simp)).trans hg⟩
      obtain ⟨gs, rfl⟩ := hv
      simp only [Act.put, List.setIfInBounds_toArray, List.set_cons_succ, List.set_cons_zero]
      repeat (first | (refine tree_det (by rfl) _ (by rfl) (fun W hW => by go_simp; (try simp (disch := omega) only [IntWalk.i64_in]); try rfl) ?_; simp only [Act.put, List.setIfInBounds_toArray, List.set_cons_succ, List.set_cons_zero]) | (refine tree_skip (by rfl) (by rfl) ?_; simp only [Act.put, List.setIfInBounds_toArray, List.set_cons_succ, List.set_cons_zero]))
      refine tree_val _ (by rfl) (by rfl) 104 #[lv l tv (.slice on l.notes.length cn), .slice (some ⟨gs, 0, none⟩) L L, iv 0] (fun W hW => by go_simp; try rfl) (fun W hE hF => ?_) ?_
      · obtain ⟨g', e, hg⟩ := hF _ (List.Mem.head _) (by kernel_rfl)
        cases e
        exact HHA.out W gs hg
      simp only [Act.put, List.setIfInBounds_toArray, List.set_cons_succ, List.set_cons_zero]
      repeat (first | (refine tree_det (by rfl) _ (by rfl) (fun W hW => by go_simp; (try simp (disch := omega) only [IntWalk.i64_in]); try rfl) ?_; simp only [Act.put, List.setIfInBounds_toArray, List.set_cons_succ, List.set_cons_zero]) | (refine tree_skip (by rfl) (by rfl) ?_; simp only [Act.put, List.setIfInBounds_toArray, List.set_cons_succ, List.set_cons_zero]))
      intro X hE hF
      have HXX := Lib.hid (Ext.below (show Ext [] wr X from hE))
      clear hE hF c0 f0 l0
      cases q
      · go_wp2_with fail
        go_roundw
        case rel => exact ⟨k + 1, by omega, by go_num, HK.out.1, bgo HK.out.2.2 HXX.out⟩
        case measure => simp [intOf]; omega
      · have HV := Lib.hid (show r = true from by rw [← HR.out]; exact HK.out.2.1 rfl)
        go_wp2_with fail
        go_returns
        exact ⟨by rw [HV.out]; simp, bgo H1.out.1 (bgo HK.out.2.2 HXX.out)⟩
    · have hkn : k = es.length := by omega
      have HV := Lib.hid (show r = false from by rw [← HR.out]; rw [hkn, List.take_length] at hno; exact hno)
      have HBW := Lib.hid hBw
      have hnl : ¬ (k : Int) < es.length := by omega
      clear hno hB hk0 hBw
      go_wp2_with fail
      go_returns
      exact ⟨by rw [HV.out]; simp, HBW.out⟩

/-- The rows with which there is a truth, among the first ones. -/
def keepE (l : LedgerD) (es : List LE) (k : Nat) : List LE := (es.take k).filter fun e => canPay l [] (dueV l e.2)
theorem keepE_yes {l : LedgerD} {es : List LE} {k : Nat} (hk : k < es.length) (h : canPay l [] (dueV l es[k].2) = true) : keepE l es (k + 1) = keepE l es k ++ [es[k]] := by
  unfold keepE
  rw [List.take_succ_eq_append_getElem hk, List.filter_append]
  simp [h]
theorem keepE_no {l : LedgerD} {es : List LE} {k : Nat} (hk : k < es.length) (h : canPay l [] (dueV l es[k].2) = false) : keepE l es (k + 1) = keepE l es k := by
  unfold keepE
  rw [List.take_succ_eq_append_getElem hk, List.filter_append]
  simp [h]
theorem keepE_len (l : LedgerD) (es : List LE) (k : Nat) : (keepE l es k).length ≤ es.length :=
  Nat.le_trans (List.length_filter_le _ _) (by simp; omega)
theorem keepE_all {l : LedgerD} {es : List LE} (h : es.map (·.2) = rtruths l.field) : (keepE l es es.length).map (·.2) = rowsL l := by
  unfold keepE rowsL
  rw [List.take_length, ← h, List.filter_map]
  rfl
theorem keepE_mem {l : LedgerD} {es : List LE} {k : Nat} {e : LE} (h : e ∈ keepE l es k) : e ∈ es := List.mem_of_mem_take (List.mem_filter.1 h).1

set_option maxHeartbeats 4000000 in
theorem zRows_any {l : LedgerD} (hS : SoundL l) (tv nv : Value) (w : World) (ht : TalliesAt w tv l.field.tallies) (hn : TriplesAt w nv l.notes) :
    Calls Tryz.prog 58 #[lv l tv nv] w (PLists (rowsL l) w) := by
  obtain ⟨on, cn, rfl⟩ := hn.open
  have hF := soundF_of hS.field
  have HX := Lib.hid (And.intro ht hn)
  have HS := Lib.hid (And.intro hS hF)
  have hl25 : ∀ es : List LE, es.map (·.2) = rtruths l.field → es.length ≤ 2500 := fun es he => by
    have h1 : es.length = (rtruths l.field).length := by rw [← he]; simp
    have h2 := rtruthsTo_len l.field ((l.field.weeders + 1) ^ l.field.rows.toNat).toNat
    have h3 := hF.many
    unfold rtruths at h1
    omega
  have HL25 := Lib.hid hl25
  clear ht hn hS hF hl25
  go_enter Tryz.func58, Tryz.ntmps58
  go_wp2_with fail
  refine gworldC fun w1 hw1 => ?_
  have hk0 : w1.heap[w.heap.size]? = some (.cells (lcells l tv (.slice on l.notes.length cn)) 30 (0, 0)) := by rw [hw1]; exact heap_new0 w _
  have hB1 : Below w.heap.size w w1 := by rw [hw1]; exact bgoAlloc (Below.refl _ _) _
  have HK1 := Lib.hid (Keeps.one hB1 hk0)
  clear hw1 hB1 hk0
  refine (rTruths_any l.field HS.out.2 tv w1 (HX.out.1.below HK1.out.below (Nat.le_refl _))).mono ?_
  rintro e W2 ⟨ev, es, rfl, hes, hmap, hb⟩
  obtain ⟨eo, ec, rfl⟩ := hes.1.open
  have hel := hes.1.len
  have HE := Lib.hid (And.intro hes hmap)
  have hlen := HL25.out es hmap
  clear hes hmap
  have HK2 := Lib.hid (HK1.out.next hb)
  clear hb
  (try clear c0 f0)
  obtain ⟨c0, f0, l0⟩ := cells_of_block HK2.out.blk
  have hmem := fun (j : Nat) (hj : j < es.length) => show es[j].2 ∈ truthsF l.field [] from (mem_rtruths HS.out.2).1 (by rw [← HE.out.2]; exact List.mem_map.2 ⟨_, List.getElem_mem hj, rfl⟩)
  have HPK := Lib.hid (fun (j : Nat) (hj : j < es.length) (tvv : Value) (wr : World) (h1 : TriplesAt wr (.slice on l.notes.length cn) l.notes) (h2 : IntsAt wr tvv es[j].2) => round_sums HS.out.1 tv (.slice on l.notes.length cn) tvv 0 (by decide) (hmem j hj) wr h1 h2)
  clear hmem
  go_wp2_with fail
  clear c0 f0
  go_loopw [4, 5] (fun v4 u wr => ∃ k : Nat, k ≤ es.length ∧ u = .int .i64 k ∧ (∃ oo oc, v4 = .slice oo (keepE l es k).length oc ∧ wr.ownsRow W2.heap.size 52 1 (.slice oo (keepE l es k).length oc) (keepE l es k).length (leCells (keepE l es k))) ∧ Below W2.heap.size W2 wr) (fun _ u _ => es.length - (intOf u).toNat)
  case atStart => exact ⟨0, Nat.zero_le _, rfl, ⟨none, 0, rfl, ⟨rfl, .inl ⟨rfl, rfl⟩⟩⟩, Below.refl _ _⟩
  case round =>
    obtain ⟨k, hk, rfl, ⟨oo, oc, rfl, how⟩, hB⟩ := hrel
    have HKR := Lib.hid (HK2.out.next hB)
    obtain ⟨c0, f0, l0'⟩ := cells_of_block HKR.out.blk
    by_cases hlt : k < es.length
    · obtain ⟨b, off, hv, hb1, d0⟩ := ListsAt.cell (SlAt.below HE.out.1.1 hB (Nat.le_refl _)) hlt
      have hia := (HE.out.1.2 _ (List.getElem_mem hlt)).below hB (Nat.le_refl _)
      obtain ⟨n, L, D, CS, hn3, hCL, hdu, hsu, hha⟩ := HPK.out k hlt es[k].1 wr (HX.out.2.below HKR.out.below (Nat.le_refl _)) hia
      rw [show bitsL 0 = [] from rfl] at hha
      have hyes := fun h => keepE_yes (l := l) hlt h
      have hno := fun h => keepE_no (l := l) hlt h
      have hkl := keepE_len l es k
      generalize es[k] = ee at *
      obtain ⟨vt, t⟩ := ee
      simp only at hia d0 hdu hyes hno
      obtain ⟨o3, c3, rfl⟩ := hia.open
      obtain ⟨q, hq⟩ : ∃ q, canPay l [] (dueV l t) = q := ⟨_, rfl⟩
      rw [hq] at hha hyes hno
      have HDU := Lib.hid hdu
      have HSU := Lib.hid hsu
      have HHA := Lib.hid hha
      have HCL := Lib.hid hCL
      have HK := Lib.hid (And.intro hyes (And.intro hno (And.intro hB how)))
      rw [show ((0 : Nat) : Int) = 0 from rfl] at HSU
      have hltI : (k : Int) < es.length := by omega
      cases hv
      clear hia hdu hsu hha hCL hyes hno hB how hq
      go_wp2_with fail
      refine wp_region_rg 10 [] none [(7, ⟨fun _ v => ∃ o c, v = .slice o n c, fun _ v Wx => SlAt 1 Wx v n (intCells D)⟩), (8, ⟨fun _ v => ∃ g, v = .slice (some ⟨g, 0, none⟩) L L, fun _ v Wx => ∃ g, v = .slice (some ⟨g, 0, none⟩) L L ∧ Wx.heap[g]? = some (.cells (boolCells CS).toArray 4 (0, 0))⟩), (9, Spec.val (.bool q))] (by as_aux_lemma => kernel_rfl) (by as_aux_lemma => kernel_rfl) ?_
      simp only [List.take_succ_cons, List.take_zero, List.drop_succ_cons, List.drop_zero]
      repeat (first | (refine tree_det (by rfl) _ (by rfl) (fun W hW => by go_simp; (try simp (disch := omega) only [IntWalk.i64_in]); try rfl) ?_; simp only [Act.put, List.setIfInBounds_toArray, List.set_cons_succ, List.set_cons_zero]) | (refine tree_skip (by rfl) (by rfl) ?_; simp only [Act.put, List.setIfInBounds_toArray, List.set_cons_succ, List.set_cons_zero]))
      refine tree_some _ (by rfl) (by rfl) (by exact ⟨.slice none n 0, none, 0, rfl⟩) (fun Wa hE hF => ?_) (fun v Wa Wb ho hE => SlAt.below ho (Ext.below (show Ext [] Wa Wb from hE)) (Nat.le_refl _)) (fun v hv => ?_)
      · have hE' : Ext [] wr Wa := hE
        refine does_enter 59 #[lv l tv (.slice on l.notes.length cn), .slice o3 t.length c3] (by go_simp; try rfl) ?_
        refine (HDU.out Wa hE'.below).mono ?_
        rintro e W' ⟨u, rfl, hu, hb⟩
        exact ⟨_, rfl, owns_slice hu, SlAt.of_owns hu, Ext.of_below hb⟩
      obtain ⟨od, cd, rfl⟩ := hv
      simp only [Act.put, List.setIfInBounds_toArray, List.set_cons_succ, List.set_cons_zero]
      repeat (first | (refine tree_det (by rfl) _ (by rfl) (fun W hW => by go_simp; (try simp (disch := omega) only [IntWalk.i64_in]); try rfl) ?_; simp only [Act.put, List.setIfInBounds_toArray, List.set_cons_succ, List.set_cons_zero]) | (refine tree_skip (by rfl) (by rfl) ?_; simp only [Act.put, List.setIfInBounds_toArray, List.set_cons_succ, List.set_cons_zero]))
      refine tree_some _ (by rfl) (by rfl) (by exact ⟨.slice (some ⟨0, 0, none⟩) L L, 0, rfl⟩) (fun Wa hE hF => ?_) (fun v Wa Wb ho hE => ?_) (fun v hv => ?_)
      · have hE' : Ext [] wr Wa := hE
        have hu : SlAt 1 Wa (.slice od n cd) n (intCells D) := hF _ (List.Mem.head _) (by kernel_rfl)
        refine does_enter 105 #[lv l tv (.slice on l.notes.length cn), iv 0, .slice od n cd, iv (-1)] (by go_simp; try rfl) ?_
        refine (HSU.out Wa (.slice od n cd) hE'.below hu).mono ?_
        rintro e W' ⟨g, rfl, hg, hgw, hb⟩
        rw [HCL.out]
        exact ⟨_, rfl, ⟨g, rfl⟩, ⟨g, rfl, hg⟩, Ext.of_below hb⟩
      · obtain ⟨g, e, hg⟩ := ho
        exact ⟨g, e, ((show Ext [] Wa Wb from hE).block g (cells_of_block hg).2.2 (by simp)).trans hg⟩
      obtain ⟨gs, rfl⟩ := hv
      simp only [Act.put, List.setIfInBounds_toArray, List.set_cons_succ, List.set_cons_zero]
      repeat (first | (refine tree_det (by rfl) _ (by rfl) (fun W hW => by go_simp; (try simp (disch := omega) only [IntWalk.i64_in]); try rfl) ?_; simp only [Act.put, List.setIfInBounds_toArray, List.set_cons_succ, List.set_cons_zero]) | (refine tree_skip (by rfl) (by rfl) ?_; simp only [Act.put, List.setIfInBounds_toArray, List.set_cons_succ, List.set_cons_zero]))
      refine tree_val _ (by rfl) (by rfl) 104 #[lv l tv (.slice on l.notes.length cn), .slice (some ⟨gs, 0, none⟩) L L, iv 0] (fun W hW => by go_simp; try rfl) (fun W hE hF => ?_) ?_
      · obtain ⟨g', e, hg⟩ := hF _ (List.Mem.head _) (by kernel_rfl)
        cases e
        exact HHA.out W gs hg
      simp only [Act.put, List.setIfInBounds_toArray, List.set_cons_succ, List.set_cons_zero]
      repeat (first | (refine tree_det (by rfl) _ (by rfl) (fun W hW => by go_simp; (try simp (disch := omega) only [IntWalk.i64_in]); try rfl) ?_; simp only [Act.put, List.setIfInBounds_toArray, List.set_cons_succ, List.set_cons_zero]) | (refine tree_skip (by rfl) (by rfl) ?_; simp only [Act.put, List.setIfInBounds_toArray, List.set_cons_succ, List.set_cons_zero]))
      intro X hE hF
      have HXX := Lib.hid (Ext.below (show Ext [] wr X from hE))
      clear hE hF c0 f0 l0
      cases q
      · have HV := Lib.hid (HK.out.2.1 rfl)
        go_wp2_with fail
        go_roundw
        case rel => exact ⟨k + 1, by omega, by go_num, ⟨oo, oc, by rw [HV.out], by rw [HV.out]; exact owns_keep HK.out.2.2.2 fun g hg => HXX.out.block g (owns_ge HK.out.2.2.2 g hg).2⟩, bgo HK.out.2.2.1 HXX.out⟩
        case measure => simp [intOf]; omega
      · have HV := Lib.hid (HK.out.1 rfl)
        have hd0 : X.cell? ⟨b, off + k, none⟩ = some (.slice o3 t.length c3) := (World.cell?_of_block (a := ⟨b, off + k, none⟩) (HXX.out.block b hb1)).trans d0
        have how2 := owns_keep (w' := X) HK.out.2.2.2 fun g hg => HXX.out.block g (owns_ge HK.out.2.2.2 g hg).2
        have HX2 := Lib.hid (And.intro how2 (bgo HK.out.2.2.1 HXX.out))
        have hsz2 := HX2.out.2.size
        clear how2 d0
        go_wp2_with (at_builtin; go_loud (refine wpList_append_at rfl _ _ tLists rfl W2.heap.size (.slice oo (keepE l es k).length oc) (keepE l es k).length (leCells (keepE l es k)) rfl (owns_ext (Ms := []) HX2.out.1 (Ext.of_below ((Below.refl _ _).alloc (Nat.le_refl _) _)) (by simp)) (.slice (some ⟨X.heap.size, 0, none⟩) 1 1) 1 [.slice o3 t.length c3] rfl (SlAt.of_block 1 1 (heap_new0 _ _) rfl (by decide)) (by intro u hu; simp at hu; subst hu; rfl) (by omega) (by omega) (by simp; omega) ?_))
        intro v' Wc hown hgr hcase
        obtain ⟨oo3, oc3, rfl⟩ := owns_slice hown
        have hwB : Below X.heap.size X (X.alloc (.cells #[.slice o3 t.length c3] 52)) := bgoAlloc (Below.refl _ _) _
        have HY := Lib.hid (And.intro hown (Below.grown (bgo HX2.out.2 hwB) hgr (by have := hwB.size; omega) (fun g e => (owns_ge HX2.out.1 g e).1)))
        clear hown hgr hcase hwB
        go_wp2_with fail
        go_roundw
        case rel =>
          have hE : (keepE l es (k + 1)).length = (keepE l es k).length + 1 := by rw [HV.out]; simp
          refine ⟨k + 1, by omega, by go_num, ⟨oo3, oc3, by rw [hE], ?_⟩, HY.out.2⟩
          rw [HV.out]
          have := HY.out.1
          simpa [leCells] using this
        case measure => simp [intOf]; omega
    · have hkn : k = es.length := by omega
      have hnl : ¬ (k : Int) < es.length := by omega
      have HK := Lib.hid (And.intro how hB)
      subst hkn
      clear how hB
      go_wp2_with fail
      go_returns
      exact ⟨_, keepE l es es.length, by simp, ⟨SlAt.of_owns HK.out.1, fun e he => (HE.out.1.2 e (keepE_mem he)).below HK.out.2 (Nat.le_refl _)⟩, keepE_all HE.out.2, HKR.out.below⟩
end Go.Proofs.YtdjgikcnmokjkaaGreat

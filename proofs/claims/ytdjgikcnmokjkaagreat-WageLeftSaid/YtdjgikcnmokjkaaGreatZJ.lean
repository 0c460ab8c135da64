/-
  The reference of chapter 1: Before, Shorter, Settles; of chapter 9: Settles, Settle.
-/
import Derived.WalkKit
import Derived.WalkLawsBesides
import Derived.WalkSpells
import Derived.Outline
import Derived.Handy
import Derived.KernelRfl
import Derived.Lib.Hide
import Derived.BigRegion
import Derived.Deep.Cut
import Derived.Test.YtdjgikcnmokjkaaGreatVN
import Derived.Test.YtdjgikcnmokjkaaGreatKE
namespace Go.Proofs.YtdjgikcnmokjkaaGreat
open Go.RowKit Go.RG Go.SL Go.Shelf Cou Go.TB
set_option maxHeartbeats 400000
set_option maxRecDepth 10000

theorem before_drop : ∀ (k : Nat) (a b : List Int), k ≤ a.length → k ≤ b.length → (∀ j, j < k → a.getD j 0 = b.getD j 0) → before a b = before (a.drop k) (b.drop k) := by
  intro k
  induction k with
  | zero => intro a b _ _ _; simp
  | succ k ih =>
    intro a b ha hb h
    cases a with
    | nil => simp at ha
    | cons x a =>
      cases b with
      | nil => simp at hb
      | cons y b =>
        have h0 := h 0 (by omega)
        simp only [List.getD_cons_zero] at h0
        subst h0
        simp only [before, if_true, List.drop_succ_cons]
        exact ih a b (by simpa using ha) (by simpa using hb) (fun j hj => by simpa using h (j + 1) (by omega))
theorem before_ne {k : Nat} {a b : List Int} (ha : k < a.length) (hb : k < b.length) (h : ∀ j, j < k → a.getD j 0 = b.getD j 0) (hne : a[k] ≠ b[k]) : before a b = decide (a[k] < b[k]) := by
  rw [before_drop k a b (by omega) (by omega) h, List.drop_eq_getElem_cons ha, List.drop_eq_getElem_cons hb]
  simp only [before]
  rw [if_neg hne]

theorem before_end {k : Nat} {a b : List Int} (ha : k ≤ a.length) (hb : k ≤ b.length) (h : ∀ j, j < k → a.getD j 0 = b.getD j 0) (hk : k = a.length ∨ k = b.length) : before a b = decide (a.length < b.length) := by
  rw [before_drop k a b ha hb h]
  by_cases e : k = a.length
  · subst e
    rw [List.drop_length]
    simp only [before]
    rw [Bool.eq_iff_iff]
    simp
  · have e2 : k = b.length := by omega
    subst e2
    rw [List.drop_length, List.drop_eq_getElem_cons (by omega)]
    simp only [before]
    rw [eq_comm, decide_eq_false_iff_not]
    omega

set_option maxHeartbeats 1000000 in
theorem Before_any (a b : List Int) (v u : Value) (w : World) (hv : IntsAt w v a) (hu : IntsAt w u b) : Calls Tryz.prog 96 #[v, u] w (PV (.bool (before a b)) w) := by
  obtain ⟨o, c, rfl⟩ := hv.open
  obtain ⟨o2, c2, rfl⟩ := hu.open
  have hl1 := hv.len
  have hl2 := hu.len
  obtain ⟨q, hq⟩ : ∃ q, before a b = q := ⟨_, rfl⟩
  rw [hq]
  have HQ := Lib.hid hq
  have HV := Lib.hid hv
  have HU := Lib.hid hu
  clear hv hu hq
  go_enter Tryz.func96, Tryz.ntmps96
  go_wp2_with fail
  go_loopw [5] (fun u wr => ∃ k : Nat, k ≤ a.length ∧ k ≤ b.length ∧ u = .int .i64 k ∧ Below w.heap.size w wr ∧ ∀ j, j < k → a.getD j 0 = b.getD j 0) (fun u _ => a.length - (intOf u).toNat)
  case atStart => exact ⟨0, Nat.zero_le _, Nat.zero_le _, rfl, Below.refl _ _, fun j hj => by omega⟩
  case round =>
    obtain ⟨k, hk, hk2, rfl, hB, hno⟩ := hrel
    have HN := Lib.hid hno
    clear hno
    by_cases hlt : k < a.length
    · have hltI : (k : Int) < a.length := by omega
      by_cases hlm : k < b.length
      · have hlmI : (k : Int) < b.length := by omega
        obtain ⟨b1, off, rfl, hb1, d1⟩ := IntsAt.cell (HV.out.below hB (Nat.le_refl _)) hlt
        obtain ⟨b2, off', rfl, hb2, d2⟩ := IntsAt.cell (HU.out.below hB (Nat.le_refl _)) hlm
        have g1 : a.getD k 0 = a[k] := by simp [List.getD, hlt]
        have g2 : b.getD k 0 = b[k] := by simp [List.getD, hlm]
        have HNE := Lib.hid (before_ne hlt hlm HN.out)
        generalize a[k] = x at *
        generalize b[k] = y at *
        have HG := Lib.hid (And.intro g1 g2)
        have HB := Lib.hid hB
        clear g1 g2 hB
        by_cases hxy : x = y
        · have hxyb : (x != y) = false := by simpa using hxy
          go_wp2_with fail
          refine wp_region_rg 9 [] none [] (by as_aux_lemma => kernel_rfl) (by as_aux_lemma => kernel_rfl) ?_
          simp only [List.take_succ_cons, List.take_zero, List.drop_succ_cons, List.drop_zero]
          repeat (refine tree_det (by rfl) _ (by rfl) (fun W hW => by go_simp; (try simp (disch := omega) only [IntWalk.i64_in]); try rfl) ?_; simp only [Act.put, List.setIfInBounds_toArray, List.set_cons_succ, List.set_cons_zero])
          intro W hE hF
          obtain ⟨hc, hf⟩ := bcell hE.below
          have hzE := hE.size
          (try simp only [World.size_alloc] at hzE)
          have HE := Lib.hid hE
          clear hE hF
          go_wp2_with fail
          go_roundw
          case rel =>
            refine ⟨k + 1, by omega, by omega, by go_num, bgo HB.out HE.out.below, fun j hj => ?_⟩
            by_cases e : j = k
            · subst e; rw [HG.out.1, HG.out.2]; exact hxy
            · exact HN.out j (by omega)
          case measure => simp [intOf]; omega
        · have hxyb : (x != y) = true := by simpa using hxy
          obtain rfl : q = decide (x < y) := by rw [← HQ.out]; exact HNE.out hxy
          clear hxy
          go_wp2_with fail
          refine wp_region_rg 9 [] none [] (by as_aux_lemma => kernel_rfl) (by as_aux_lemma => kernel_rfl) ?_
          simp only [List.take_succ_cons, List.take_zero, List.drop_succ_cons, List.drop_zero]
          repeat (refine tree_det (by rfl) _ (by rfl) (fun W hW => by go_simp; (try simp (disch := omega) only [IntWalk.i64_in]); try rfl) ?_; simp only [Act.put, List.setIfInBounds_toArray, List.set_cons_succ, List.set_cons_zero])
          intro W hE hF
          obtain ⟨hc, hf⟩ := bcell hE.below
          have hzE := hE.size
          (try simp only [World.size_alloc] at hzE)
          have HE := Lib.hid hE
          have d1' := (hc b1 (off + k) hb1).trans d1
          have d2' := (hc b2 (off' + k) hb2).trans d2
          have hb1' : b1 < W.heap.size := by omega
          have hb2' : b2 < W.heap.size := by omega
          clear hE hF hc hf
          go_wp2_with fail
          refine wp_region_rg 9 [] none [] (by as_aux_lemma => kernel_rfl) (by as_aux_lemma => kernel_rfl) ?_
          simp only [List.take_succ_cons, List.take_zero, List.drop_succ_cons, List.drop_zero]
          repeat (refine tree_det (by rfl) _ (by rfl) (fun W hW => by go_simp; (try simp (disch := omega) only [IntWalk.i64_in]); try rfl) ?_; simp only [Act.put, List.setIfInBounds_toArray, List.set_cons_succ, List.set_cons_zero])
          intro W2 hE2 hF2
          have HE2 := Lib.hid (show Ext [] W W2 from hE2)
          clear hE2 hF2
          go_wp2_with fail
          go_returns
          exact ⟨by simp, bgo HB.out (bgo HE.out.below HE2.out.below)⟩
      · have hlmI : ¬ (k : Int) < b.length := by omega
        obtain rfl : q = decide ((a.length : Int) < b.length) := by rw [← HQ.out, before_end hk hk2 HN.out (by omega)]; simp
        have HB := Lib.hid hB
        clear hB
        go_wp2_with fail
        go_returns
        exact ⟨by simp, HB.out⟩
    · have hltI : ¬ (k : Int) < a.length := by omega
      obtain rfl : q = decide ((a.length : Int) < b.length) := by rw [← HQ.out, before_end hk hk2 HN.out (by omega)]; simp
      have HB := Lib.hid hB
      clear hB
      go_wp2_with fail
      go_returns
      exact ⟨by simp, HB.out⟩

theorem Shorter_any (a b : List Int) (v u : Value) (w : World) (hv : IntsAt w v a) (hu : IntsAt w u b) : Calls Tryz.prog 52 #[v, u] w (PV (.bool (shorter a b)) w) := by
  obtain ⟨o, c, rfl⟩ := hv.open
  obtain ⟨o2, c2, rfl⟩ := hu.open
  have hl1 := hv.len
  have hl2 := hu.len
  have HC := Lib.hid (Before_any a b _ _ w hv hu)
  obtain ⟨q, hq⟩ : ∃ q, shorter a b = q := ⟨_, rfl⟩
  rw [hq]
  have HQ := Lib.hid hq
  clear hv hu hq
  by_cases h1 : (a.length : Int) < b.length
  · obtain rfl : q = true := by rw [← HQ.out]; simp [shorter]; omega
    go_enter Tryz.func52, Tryz.ntmps52
    go_wp2_with fail
    go_returns
    exact ⟨by simp, Below.refl _ _⟩
  · by_cases h2 : (a.length : Int) = b.length
    · obtain rfl : q = before a b := by
        rw [← HQ.out]
        have e : a.length = b.length := by omega
        simp [shorter, e]
      have h2b : ((a.length : Int) == b.length) = true := by simpa using h2
      clear h2
      go_enter Tryz.func52, Tryz.ntmps52
      go_wp2_with fail
      refine HC.out.mono ?_
      rintro e W1 ⟨rfl, hb⟩
      have HB := Lib.hid hb
      clear hb HC
      go_wp2_with fail
      go_returns
      exact ⟨by simp, HB.out⟩
    · obtain rfl : q = false := by rw [← HQ.out]; simp [shorter]; omega
      have h2b : ((a.length : Int) == b.length) = false := by simpa using h2
      clear h2
      go_enter Tryz.func52, Tryz.ntmps52
      go_wp2_with fail
      go_returns
      exact ⟨by simp, Below.refl _ _⟩

set_option maxHeartbeats 8000000 in
theorem wSettles_any {f : FieldD} (hS : SoundF f) (ev : Value) (es : List LE) (wd m : Nat) (w : World) (he : ListsAt w ev es) (hes : es.map (·.2) = rtruths f) (hm : m < 2 ^ f.rows.toNat) (_ : wd ≤ 1000) :
    Calls Tryz.prog 55 #[ev, iv wd, iv m] w (PV (.bool (settlesF f (wd : Int) (bitsL m))) w) := by
  obtain ⟨eo, ec, rfl⟩ := he.1.open
  have hel := he.1.len
  obtain ⟨R, hR⟩ : ∃ R : Nat, f.rows = R := ⟨f.rows.toNat, by have := hS.rows0; omega⟩
  have hRt : f.rows.toNat = R := by omega
  have hR7 : R ≤ 7 := by have := hS.rows1; omega
  have hR1 : 1 ≤ R := by have := hS.rows0; omega
  have hm128 : m < 128 := by
    have : 2 ^ R ≤ 2 ^ 7 := Nat.pow_le_pow_right (by omega) hR7
    rw [hRt] at hm
    omega
  have hmem : ∀ (j : Nat) (hj : j < es.length), es[j].2 ∈ truthsF f [] ∧ es[j].2.length = R ∧ (rtruths f).getD j [] = es[j].2 := fun j hj => by
    have h1 : es[j].2 ∈ truthsF f [] := (mem_rtruths hS).1 (by rw [← hes]; exact List.mem_map.2 ⟨_, List.getElem_mem hj, rfl⟩)
    exact ⟨h1, by rw [truthsF_len h1, hRt], by rw [← hes]; simp [List.getD, hj]⟩
  have hlen : (rtruths f).length = es.length := by rw [← hes]; simp
  obtain ⟨q, hq⟩ : ∃ q, settlesF f (wd : Int) (bitsL m) = q := ⟨_, rfl⟩
  have HBAD := Lib.hid (fun a b ha hb h => settles_bad (f := f) (w := (wd : Int)) hm (a := a) (b := b) ha hb h)
  have HGOOD := Lib.hid (settles_good hS (w := (wd : Int)) hm)
  rw [hq] at HBAD HGOOD ⊢
  rw [hlen] at HGOOD
  have HMEM := Lib.hid hmem
  have HX := Lib.hid he
  have HDN := Lib.hid (fun (a : List Int) => show badP f (wd : Int) m a = fun b => (doneF f a (wd : Int) != doneF f b (wd : Int) && alikeB m a b R) from by funext b; unfold badP; rw [hRt])
  have HDF := Lib.hid (fun (a : List Int) => show doneF f a (wd : Int) = didT a (wd : Int) 0 ((R : Int) - 1) from by unfold doneF; rw [hR])
  clear hm hmem hlen hq hS hes hR hRt he
  go_enter Tryz.func55, Tryz.ntmps55
  go_wp2_with fail
  go_loopw [7] (fun u wr => ∃ i : Nat, i ≤ es.length ∧ u = .int .i64 i ∧ (∀ i' k', k' < i' → i' < i → badP f (wd : Int) m ((rtruths f).getD i' []) ((rtruths f).getD k' []) = false) ∧ Below w.heap.size w wr) (fun u _ => es.length - (intOf u).toNat)
  case atStart => exact ⟨0, Nat.zero_le _, rfl, fun _ _ _ h => by omega, Below.refl _ _⟩
  case round =>
    obtain ⟨i, hi, rfl, hno, hB⟩ := hrel
    have HNO := Lib.hid (And.intro hno hB)
    clear hno hB
    by_cases hlt : i < es.length
    case neg =>
      have hnl : ¬ (i : Int) < es.length := by omega
      obtain rfl : q = true := HGOOD.out fun i' k' h1 h2 => HNO.out.1 i' k' h1 (by omega)
      go_wp2_with fail
      go_returns
      exact ⟨by simp, HNO.out.2⟩
    have hltI : (i : Int) < es.length := by omega
    go_wp2_with fail
    go_loopw [8] (fun u wr => ∃ k : Nat, k ≤ i ∧ u = .int .i64 k ∧ (∀ k', k' < k → badP f (wd : Int) m ((rtruths f).getD i []) ((rtruths f).getD k' []) = false) ∧ Below w.heap.size w wr) (fun u _ => i - (intOf u).toNat)
    case atStart => exact ⟨0, Nat.zero_le _, rfl, fun _ h => by omega, HNO.out.2⟩
    case round =>
      obtain ⟨k, hk, rfl, hno, hB⟩ := hrel
      have HN2 := Lib.hid (And.intro hno hB)
      clear hno
      by_cases hki : k < i
      case neg =>
        have hnl : ¬ (k : Int) < i := by omega
        clear hB
        go_wp2_with fail
        go_roundw
        case rel =>
          refine ⟨i + 1, by omega, by go_num, fun i' k' h1 h2 => ?_, HN2.out.2⟩
          by_cases e : i' = i
          · subst e; exact HN2.out.1 k' (by omega)
          · exact HNO.out.1 i' k' h1 (by omega)
        case measure => simp [intOf]; omega
      have hkiI : (k : Int) < i := by omega
      have hkl : k < es.length := by omega
      have hklI : (k : Int) < es.length := by omega
      obtain ⟨b, off, hv, hb1, c1⟩ := ListsAt.cell (SlAt.below HX.out.1 hB (Nat.le_refl _)) hlt
      obtain ⟨b', off', hv', hb2, c2⟩ := ListsAt.cell (SlAt.below HX.out.1 hB (Nat.le_refl _)) hkl
      cases hv
      cases hv'
      have hia := HX.out.2 _ (List.getElem_mem hlt)
      have hib := HX.out.2 _ (List.getElem_mem hkl)
      obtain ⟨ma, la, ga⟩ := HMEM.out i hlt
      obtain ⟨mb, lb, gb⟩ := HMEM.out k hkl
      generalize es[i] = ea at *
      generalize es[k] = eb at *
      obtain ⟨va, a⟩ := ea
      obtain ⟨vb, bb⟩ := eb
      simp only at c1 c2 hia hib ma mb la lb ga gb
      obtain ⟨oa, ca, rfl⟩ := hia.open
      obtain ⟨ob, cb, rfl⟩ := hib.open
      rw [la] at c1
      rw [lb] at c2
      have HAB := Lib.hid (And.intro (show SlAt 1 w (.slice oa R ca) R (intCells a) from by have := IntsAt.at_ hia la; rw [la] at this; exact this) (show SlAt 1 w (.slice ob R cb) R (intCells bb) from by have := IntsAt.at_ hib lb; rw [lb] at this; exact this))
      have HC := Lib.hid (And.intro (show ∀ W, Below w.heap.size w W → W.cell? ⟨b, off + i, none⟩ = some (.slice oa R ca) ∧ W.cell? ⟨b, off + k, none⟩ = some (.slice ob R cb) from fun W hW => by
        obtain ⟨bx, offx, hx, hxl, c3⟩ := ListsAt.cell (SlAt.below HX.out.1 (Below.refl _ _) (Nat.le_refl _)) hlt
        cases hx
        have hE : W.heap[b]? = wr.heap[b]? := (hW.block b hxl).trans (hB.block b hxl).symm
        exact ⟨(World.cell?_of_block (a := ⟨b, off + i, none⟩) hE).trans c1, (World.cell?_of_block (a := ⟨b, off + k, none⟩) hE).trans c2⟩) trivial)
      have HLN := Lib.hid (And.intro la (And.intro lb (And.intro ma (And.intro mb (And.intro ga gb)))))
      have HDA := Lib.hid (fun (W : World) (h : SlAt 1 W (.slice oa R ca) R (intCells a)) => rDid_any a (.slice oa R ca) (by omega) (wd : Int) 0 ((R : Int) - 1) (by omega) (by omega) (by omega) W (IntsAt.of_at h la))
      have HDB := Lib.hid (fun (W : World) (h : SlAt 1 W (.slice ob R cb) R (intCells bb)) => rDid_any bb (.slice ob R cb) (by omega) (wd : Int) 0 ((R : Int) - 1) (by omega) (by omega) (by omega) W (IntsAt.of_at h lb))
      have hbp : badP f (wd : Int) m a bb = (didT a (wd : Int) 0 ((R : Int) - 1) != didT bb (wd : Int) 0 ((R : Int) - 1) && alikeB m a bb R) := by
        rw [HDN.out a]
        simp only [HDF.out]
      generalize didT a (wd : Int) 0 ((R : Int) - 1) = x at *
      generalize didT bb (wd : Int) 0 ((R : Int) - 1) = y at *
      have HBP := Lib.hid hbp
      have HBQ := Lib.hid hB
      clear hia hib la lb ma mb ga gb hbp hB hb2
      go_wp2_with fail
      refine wp_region_rg 25 [] none [(11, Spec.val (iv x)), (23, Spec.val (iv y))] (by as_aux_lemma => kernel_rfl) (by as_aux_lemma => kernel_rfl) ?_
      simp only [List.take_succ_cons, List.take_zero, List.drop_succ_cons, List.drop_zero]
      repeat (first | (refine tree_det (by rfl) _ (by rfl) (fun W hW => by go_simp; (try simp (disch := omega) only [IntWalk.i64_in]); try rfl) ?_; simp only [Act.put, List.setIfInBounds_toArray, List.set_cons_succ, List.set_cons_zero]) | (refine tree_skip (by rfl) (by rfl) ?_; simp only [Act.put, List.setIfInBounds_toArray, List.set_cons_succ, List.set_cons_zero]))
      refine tree_val _ (by rfl) (by rfl) 73 #[.slice oa R ca, iv wd, iv 0, iv ((R : Int) - 1)] (fun W hW => by go_simp; try rfl) (fun W hE hF => by exact HDA.out W (HAB.out.1.below (bgo HBQ.out (Ext.below (show Ext [] wr W from hE))) (Nat.le_refl _))) ?_
      simp only [Act.put, List.setIfInBounds_toArray, List.set_cons_succ, List.set_cons_zero]
      repeat (first | (refine tree_det (by rfl) _ (by rfl) (fun W hW => by go_simp; (try simp (disch := omega) only [IntWalk.i64_in]); try rfl) ?_; simp only [Act.put, List.setIfInBounds_toArray, List.set_cons_succ, List.set_cons_zero]) | (refine tree_skip (by rfl) (by rfl) ?_; simp only [Act.put, List.setIfInBounds_toArray, List.set_cons_succ, List.set_cons_zero]))
      refine tree_val _ (by rfl) (by rfl) 73 #[.slice ob R cb, iv wd, iv 0, iv ((R : Int) - 1)] (fun W hW => by go_simp; try rfl) (fun W hE hF => by exact HDB.out W (HAB.out.2.below (bgo HBQ.out (Ext.below (show Ext [] wr W from hE))) (Nat.le_refl _))) ?_
      simp only [Act.put, List.setIfInBounds_toArray, List.set_cons_succ, List.set_cons_zero]
      repeat (first | (refine tree_det (by rfl) _ (by rfl) (fun W hW => by go_simp; (try simp (disch := omega) only [IntWalk.i64_in]); try rfl) ?_; simp only [Act.put, List.setIfInBounds_toArray, List.set_cons_succ, List.set_cons_zero]) | (refine tree_skip (by rfl) (by rfl) ?_; simp only [Act.put, List.setIfInBounds_toArray, List.set_cons_succ, List.set_cons_zero]))
      intro X hE hF
      have HXX := Lib.hid (bgo HBQ.out (Ext.below (show Ext [] wr X from hE)))
      clear hE hF c1 c2
      obtain ⟨xy, hxy⟩ : ∃ xy, (x != y) = xy := ⟨_, rfl⟩
      have HXY := Lib.hid hxy
      go_wp2_with fail
      go_loopw [9, 10] (fun v9 u wr => ∃ r : Nat, r ≤ R ∧ u = .int .i64 r ∧ v9 = .bool (xy && alikeB m a bb r) ∧ Below w.heap.size w wr) (fun _ u _ => R - (intOf u).toNat)
      case atStart => exact ⟨0, Nat.zero_le _, rfl, by rw [show alikeB m a bb 0 = true from rfl, Bool.and_true, ← HXY.out], HXX.out⟩
      case round =>
        obtain ⟨r, hr, rfl, rfl, hBx⟩ := hrel
        obtain ⟨c1, c2⟩ := HC.out.1 wr hBx
        have hsu := alikeB_succ m a bb r
        obtain ⟨s, hs⟩ : ∃ s, (xy && alikeB m a bb r) = s := ⟨_, rfl⟩
        rw [hs]
        have HSX := Lib.hid (And.intro hs hBx)
        by_cases hrR : r < R
        · have hrI : (r : Int) < R := by omega
          cases s
          · have HV := Lib.hid (show badP f (wd : Int) m a bb = false from by
              rw [HBP.out, HXY.out]
              rw [Bool.and_eq_false_iff] at hs ⊢
              rcases hs with hs | hs
              · exact .inl hs
              · exact .inr (alikeB_bad (Nat.le_of_lt hrR) hs))
            clear hs hsu hBx hxy
            go_wp2_with fail
            go_roundw
            case rel =>
              refine ⟨k + 1, by omega, by go_num, fun k' h1 => ?_, HSX.out.2⟩
              by_cases e : k' = k
              · subst e; rw [HLN.out.2.2.2.2.1, HLN.out.2.2.2.2.2]; exact HV.out
              · exact HN2.out.1 k' (by omega)
            case measure => simp [intOf]; omega
          · rw [Bool.and_eq_true] at hs
            obtain ⟨bA, fA, eA, rA, dA⟩ := IntsAt.cell (HAB.out.1.below hBx (Nat.le_refl _)) (show r < a.length by rw [HLN.out.1]; exact hrR)
            obtain ⟨bB, fB, eB, rB, dB⟩ := IntsAt.cell (HAB.out.2.below hBx (Nat.le_refl _)) (show r < bb.length by rw [HLN.out.2.1]; exact hrR)
            have e1 : a.getD r 0 = a[r]'(by rw [HLN.out.1]; exact hrR) := by simp [List.getD, HLN.out.1, hrR]
            have e2 : bb.getD r 0 = bb[r]'(by rw [HLN.out.2.1]; exact hrR) := by simp [List.getD, HLN.out.2.1, hrR]
            rw [e1, e2, hs.2, Bool.true_and] at hsu
            generalize a[r]'(by rw [HLN.out.1]; exact hrR) = z1 at *
            generalize bb[r]'(by rw [HLN.out.2.1]; exact hrR) = z2 at *
            have HSU := Lib.hid (And.intro hsu hs.1)
            have hdI : (m : Int) / 2 ^ r = ((m / 2 ^ r : Nat) : Int) := by norm_cast
            have hbit := bit_zero m r
            have hdle : m / 2 ^ r ≤ m := Nat.div_le_self _ _
            generalize m / 2 ^ r = d at *
            have hd1 : (d : Int) ≤ 1000 := by omega
            cases eA
            cases eB
            clear hs hsu hBx e1 e2 hxy
            cases hb : m.testBit r
            · rw [hb] at hbit HSU
              have HV := Lib.hid (show (xy && alikeB m a bb (r + 1)) = true from by rw [HSU.out.1, HSU.out.2]; simp)
              clear hb
              go_wp2_with fail
              go_region
              all_goals go_wp2_with fail
              all_goals go_roundw
              case rel => exact ⟨r + 1, by omega, by go_num, by rw [HV.out], bgoDrew HSX.out.2⟩
              case measure => simp [intOf]; omega
            · rw [hb] at hbit HSU
              have HV := Lib.hid (show (xy && alikeB m a bb (r + 1)) = (z1 == z2) from by rw [HSU.out.1, HSU.out.2]; simp)
              clear hb
              go_wp2_with fail
              go_region
              all_goals go_wp2_with fail
              all_goals go_roundw
              case rel => exact ⟨r + 1, by omega, by go_num, by rw [HV.out], bgoDrew HSX.out.2⟩
              case measure => simp [intOf]; omega
        · have hrI : ¬ (r : Int) < R := by omega
          have hrR' : r = R := by omega
          have HV := Lib.hid (show badP f (wd : Int) m a bb = s from by rw [HBP.out, HXY.out, ← hrR']; exact hs)
          clear hs hsu hBx hxy
          cases s
          · go_wp2_with fail
            go_roundw
            case rel =>
              refine ⟨k + 1, by omega, by go_num, fun k' h1 => ?_, HSX.out.2⟩
              by_cases e : k' = k
              · subst e; rw [HLN.out.2.2.2.2.1, HLN.out.2.2.2.2.2]; exact HV.out
              · exact HN2.out.1 k' (by omega)
            case measure => simp [intOf]; omega
          · obtain rfl : q = false := HBAD.out a bb HLN.out.2.2.1 HLN.out.2.2.2.1 HV.out
            go_wp2_with fail
            go_returns
            exact ⟨by simp, HSX.out.2⟩
end Go.Proofs.YtdjgikcnmokjkaaGreat

/-
  The law's own functions: Thin, fault, ready, list, to.
  The law's Ledger: a ledger of the reference, for the program.
-/
import Derived.WalkKit
import Derived.WalkLawsBesides
import Derived.WalkSpells
import Derived.Outline
import Derived.Handy
import Derived.KernelRfl
import Derived.Lib.Hide
import Derived.Test.YtdjgikcnmokjkaaGreatZA
import Derived.Test.YtdjgikcnmokjkaaGreatUL
namespace Go.Proofs.YtdjgikcnmokjkaaGreat
open Go.RowKit Go.RG Go.SL Go.Shelf Cou Go.TB
set_option maxHeartbeats 400000
set_option maxRecDepth 10000

def thinL (l : LedgerD) : Bool := thinF l.field && (decide (l.notes.length ≤ 7) && (decide (faultF l.field ≠ 0) || (!inB l.rate 1 50 || (decide ((l.field.weeders + 1) ^ l.field.rows.toNat ≤ 130) && decide (l.rate * l.field.rows ≤ 42)))))

set_option maxHeartbeats 2000000 in
theorem zThin_any (l : LedgerD) (tv nv : Value) (w : World) (ht : TalliesAt w tv l.field.tallies) (hn : TriplesAt w nv l.notes) :
    Calls Tryz.prog 19 #[lv l tv nv] w (PV (.bool (thinL l)) w) := by
  obtain ⟨no, nc, rfl⟩ := hn.open
  have hnl := hn.len
  have HA := Lib.hid (And.intro ht hn)
  clear ht hn
  obtain ⟨nn, hnn⟩ : ∃ nn, l.notes.length = nn := ⟨_, rfl⟩
  have HNN := Lib.hid hnn
  rw [hnn] at hnl ⊢
  clear hnn
  go_enter Tryz.func19, Tryz.ntmps19
  go_wp2_with fail
  refine (rThin_any l.field tv _ (HA.out.1.alloc _)).mono ?_
  rintro e W1 ⟨rfl, hb⟩
  have hk0 := (hb.block w.heap.size (by simp)).trans (heap_new0 w (.cells (lcells l tv (.slice no nn nc)) 30))
  have HB1 := Lib.hid (And.intro (show Below w.heap.size w W1 from (by repeat (first | exact Below.refl _ _ | assumption | refine bgo ?_ (by assumption) | refine bgoAlloc ?_ _ | refine bgoDrew ?_ | refine bgoSet ?_ (by simp; omega) _))) hk0)
  obtain ⟨c0, f0, l0⟩ := cells_of_block hk0
  clear hb hk0
  obtain ⟨tf, htf⟩ : ∃ tf, thinF l.field = tf := ⟨_, rfl⟩
  rw [htf]
  have HT := Lib.hid htf
  clear htf
  cases tf
  · have HV := Lib.hid (show thinL l = false from by unfold thinL; rw [HT.out]; rfl)
    go_wp2_with fail
    go_returns
    exact ⟨by rw [HV.out]; simp, HB1.out.1⟩
  by_cases h7 : 7 < nn
  · have h7I : (nn : Int) > 7 := by omega
    have HV := Lib.hid (show thinL l = false from by unfold thinL; rw [HT.out, HNN.out, show decide (nn ≤ 7) = false from by simp; omega]; rfl)
    go_wp2_with fail
    go_returns
    exact ⟨by rw [HV.out]; simp, HB1.out.1⟩
  have h7I : ¬ (nn : Int) > 7 := by omega
  have HV := Lib.hid (show thinL l = (decide (faultF l.field ≠ 0) || (!inB l.rate 1 50 || (decide ((l.field.weeders + 1) ^ l.field.rows.toNat ≤ 130) && decide (l.rate * l.field.rows ≤ 42)))) from by
    unfold thinL; rw [HT.out, HNN.out, show decide (nn ≤ 7) = true from by simp; omega]; rfl)
  go_wp2_with fail
  refine (rFault_any l.field tv _ (HA.out.1.below HB1.out.1 (Nat.le_refl _))).mono ?_
  rintro e W2 ⟨rfl, hb⟩
  have hk0 := (hb.block _ l0).trans HB1.out.2
  have HB2 := Lib.hid (And.intro (bgo HB1.out.1 hb) hk0)
  clear hb c0 f0 l0 h7I
  obtain ⟨c0, f0, l0⟩ := cells_of_block hk0
  clear hk0
  obtain ⟨zf, hzf⟩ : ∃ zf, faultF l.field = zf := ⟨_, rfl⟩
  rw [hzf] at HV ⊢
  by_cases hz0 : zf = 0
  case neg =>
    have hzb : (zf != 0) = true := by simpa using hz0
    have HV1 := Lib.hid (show thinL l = true from by rw [HV.out]; simp [hz0])
    clear hz0
    go_wp2_with fail
    go_returns
    exact ⟨by rw [HV1.out]; simp, HB2.out.1⟩
  subst hz0
  have hF := soundF_of hzf
  clear hzf
  go_wp2_with fail
  refine (rIn_any l.rate 1 50 _).mono ?_
  rintro e W3 ⟨rfl, hb⟩
  have hk0 := (hb.block _ l0).trans HB2.out.2
  have HB3 := Lib.hid (And.intro (bgo HB2.out.1 hb) hk0)
  clear hb c0 f0 l0
  obtain ⟨c0, f0, l0⟩ := cells_of_block hk0
  clear hk0
  obtain ⟨ri, hri⟩ : ∃ ri, inB l.rate 1 50 = ri := ⟨_, rfl⟩
  rw [hri] at HV ⊢
  cases ri
  · have HV1 := Lib.hid (show thinL l = true from by rw [HV.out]; simp)
    go_wp2_with fail
    go_returns
    exact ⟨by rw [HV1.out]; simp, HB3.out.1⟩
  have hrb : 1 ≤ l.rate ∧ l.rate ≤ 50 := by unfold inB at hri; simpa using hri
  have hr0 := hF.rows0
  have hr7 := hF.rows1
  have hm : 0 ≤ l.rate * l.field.rows ∧ l.rate * l.field.rows ≤ 50 * 7 := ⟨Int.mul_nonneg (by omega) (by omega), Int.mul_le_mul hrb.2 hr7 (by omega) (by omega)⟩
  have HM := Lib.hid (rMany_any l.field tv W3 hF.rows0 hF.rows1 hF.weed0 hF.weed1)
  obtain ⟨mm, hmm⟩ : ∃ mm, (l.field.weeders + 1) ^ l.field.rows.toNat = mm := ⟨_, rfl⟩
  rw [hmm] at HM HV
  clear hmm hri hF
  go_wp2_with fail
  refine HM.out.mono ?_
  rintro e W4 ⟨rfl, hb⟩
  have hk0 := (hb.block _ l0).trans HB3.out.2
  have HB4 := Lib.hid (bgo HB3.out.1 hb)
  clear hb c0 f0 l0
  obtain ⟨c0, f0, l0⟩ := cells_of_block hk0
  clear hk0
  by_cases h130 : mm ≤ 130
  · have HV1 := Lib.hid (show thinL l = decide (l.rate * l.field.rows ≤ 42) from by rw [HV.out]; simp [h130])
    go_wp2_with fail
    go_returns
    exact ⟨by rw [HV1.out]; simp, HB4.out⟩
  · have HV1 := Lib.hid (show thinL l = false from by rw [HV.out]; simp [h130])
    have h130b : decide (mm ≤ 130) = false := by simpa using h130
    go_wp2_with fail
    go_returns
    exact ⟨by rw [HV1.out]; simp, HB4.out⟩

theorem zfault_any (l : LedgerD) (tv nv : Value) (w : World) (ht : TalliesAt w tv l.field.tallies) (hn : TriplesAt w nv l.notes) :
    Calls Tryz.prog 24 #[lv l tv nv] w (PV (iv (faultW l)) w) := by
  have HF := Lib.hid (zFault_any l tv nv (w.alloc (.cells (lcells l tv nv) 30)) (ht.alloc _) (hn.alloc _))
  clear ht hn
  go_enter Tryz.func24, Tryz.ntmps24
  go_wp2_with fail
  refine HF.out.mono ?_
  rintro e W1 ⟨rfl, hb⟩
  have HB := Lib.hid (show Below w.heap.size w W1 from (by repeat (first | exact Below.refl _ _ | assumption | refine bgo ?_ (by assumption) | refine bgoAlloc ?_ _ | refine bgoDrew ?_ | refine bgoSet ?_ (by simp; omega) _)))
  clear hb
  go_wp2_with fail
  go_returns
  exact ⟨by simp, HB.out⟩

def readyL (l : LedgerD) : Bool := thinL l && decide (faultW l = 0)
theorem ready_any (l : LedgerD) (tv nv : Value) (w : World) (ht : TalliesAt w tv l.field.tallies) (hn : TriplesAt w nv l.notes) :
    Calls Tryz.prog 38 #[lv l tv nv] w (PV (.bool (readyL l)) w) := by
  have HT := Lib.hid (zThin_any l tv nv (w.alloc (.cells (lcells l tv nv) 30)) (ht.alloc _) (hn.alloc _))
  have HA := Lib.hid (And.intro ht hn)
  clear ht hn
  obtain ⟨tf, htf⟩ : ∃ tf, thinL l = tf := ⟨_, rfl⟩
  obtain ⟨zf, hzf⟩ : ∃ zf, faultW l = zf := ⟨_, rfl⟩
  have HV := Lib.hid (show readyL l = (tf && decide (zf = 0)) from by unfold readyL; rw [htf, hzf])
  rw [htf] at HT
  have HZ := Lib.hid hzf
  clear htf hzf
  go_enter Tryz.func38, Tryz.ntmps38
  go_wp2_with fail
  refine HT.out.mono ?_
  rintro e W1 ⟨rfl, hb⟩
  have hk0 := (hb.block w.heap.size (by simp)).trans (heap_new0 w (.cells (lcells l tv nv) 30))
  have HB1 := Lib.hid (show Below w.heap.size w W1 from (by repeat (first | exact Below.refl _ _ | assumption | refine bgo ?_ (by assumption) | refine bgoAlloc ?_ _ | refine bgoDrew ?_ | refine bgoSet ?_ (by simp; omega) _)))
  obtain ⟨c0, f0, l0⟩ := cells_of_block hk0
  clear hb hk0
  cases tf
  · go_wp2_with fail
    go_returns
    exact ⟨by rw [HV.out]; simp, HB1.out⟩
  · have HF := Lib.hid (zfault_any l tv nv W1 (HA.out.1.below HB1.out (Nat.le_refl _)) (HA.out.2.below HB1.out (Nat.le_refl _)))
    rw [HZ.out] at HF
    go_wp2_with fail
    refine HF.out.mono ?_
    rintro e W2 ⟨rfl, hb⟩
    have HB2 := Lib.hid (bgo HB1.out hb)
    clear hb c0 f0
    go_wp2_with fail
    go_returns
    exact ⟨by rw [HV.out]; simp; rfl, HB2.out⟩

theorem zto_any (r : Rng) (w : World) : Calls Tryz.prog 31 #[rv r] w (PV (rv r) w) := by
  go_enter Tryz.func31, Tryz.ntmps31
  go_wp2_with fail
  go_returns
  exact ⟨by simp, (by repeat (first | exact Below.refl _ _ | assumption | refine bgo ?_ (by assumption) | refine bgoAlloc ?_ _ | refine bgoDrew ?_ | refine bgoSet ?_ (by simp; omega) _))⟩

theorem list_any (l : List Int) (v : Value) (w : World) (h : IntsAt w v l) (hl : l.length ≤ 1000) : Calls Tryz.prog 47 #[v] w (fun e w' => ∃ u, e = .returned u ∧ w'.ownsRow w.heap.size 3 1 u l.length (intCells l) ∧ Below w.heap.size w w') := by
  obtain ⟨o, c, rfl⟩ := h.open
  have HH := Lib.hid h
  clear h
  go_enter Tryz.func47, Tryz.ntmps47
  go_wp2_with (at_builtin; refine wpList_copy (by first | rfl | (simp [Region.wanted, yielded]; done)) _ _ rfl rfl (heap_new0 w (.cells #[] 3)) l _ rfl (HH.out.alloc _) hl ?_)
  intro po pc X hpo hpb
  have HX := Lib.hid (And.intro hpo ((bgoAlloc (Below.refl w.heap.size w) (.cells #[] 3)).trans hpb))
  clear hpo hpb
  go_wp2_with fail
  go_returns
  exact ⟨_, by simp, HX.out.1, HX.out.2⟩
end Go.Proofs.YtdjgikcnmokjkaaGreat

namespace Go.Proofs.YtdjgikcnmokjkaaGreat
open Go.RowKit Go.RG Go.SL Go.Shelf Cou Go.TB
set_option maxHeartbeats 400000
set_option maxRecDepth 10000

theorem set_nine {w : World} {b : Nat} {t : TypeId} {fr : Nat × Nat} {a0 a1 a2 a3 a4 a5 a6 a7 a8 : Value} (h : w.heap[b]? = some (.cells #[a0, a1, a2, a3, a4, a5, a6, a7, a8] t fr)) (y0 y1 y2 y3 y4 y5 y6 y7 y8 : Value) :
    (((((((((w.setCell ⟨b, 0, none⟩ y0).setCell ⟨b, 1, none⟩ y1).setCell ⟨b, 2, none⟩ y2).setCell ⟨b, 3, none⟩ y3).setCell ⟨b, 4, none⟩ y4).setCell ⟨b, 5, none⟩ y5).setCell ⟨b, 6, none⟩ y6).setCell ⟨b, 7, none⟩ y7).setCell ⟨b, 8, none⟩ y8).heap[b]? = some (.cells #[y0, y1, y2, y3, y4, y5, y6, y7, y8] t fr) := by
  have k := set_block (o := 8) (set_block (o := 7) (set_block (o := 6) (set_block (o := 5) (set_block (o := 4) (set_block (o := 3) (set_block (o := 2) (set_block (o := 1) (set_block (o := 0) h y0) y1) y2) y3) y4) y5) y6) y7) y8
  simp only [List.setIfInBounds_toArray, List.set_cons_succ, List.set_cons_zero] at k
  exact k
theorem ext_nine (W : World) (b : Nat) (y0 y1 y2 y3 y4 y5 y6 y7 y8 : Value) : Ext [b] W (((((((((W.setCell ⟨b, 0, none⟩ y0).setCell ⟨b, 1, none⟩ y1).setCell ⟨b, 2, none⟩ y2).setCell ⟨b, 3, none⟩ y3).setCell ⟨b, 4, none⟩ y4).setCell ⟨b, 5, none⟩ y5).setCell ⟨b, 6, none⟩ y6).setCell ⟨b, 7, none⟩ y7).setCell ⟨b, 8, none⟩ y8) :=
  ext_sets b [(0, y0), (1, y1), (2, y2), (3, y3), (4, y4), (5, y5), (6, y6), (7, y7), (8, y8)] W

theorem noteCells_snoc (R : List Rdg) (r : Rdg) : tripleCells (R ++ [r]) = tripleCells R ++ tripleCells [r] := by simp [tripleCells]

set_option maxHeartbeats 4000000 in
theorem Ledger_any (l : LedgerD) (tv nv : Value) (w : World) (ht : TalliesAt w tv l.field.tallies) (hn : TriplesAt w nv l.notes) (hl : l.field.tallies.length ≤ 1000) (hl2 : l.notes.length ≤ 1000) :
    Calls Tryz.prog 22 #[lv l tv nv] w (PLed l w) := by
  obtain ⟨no, nc, rfl⟩ := hn.open
  have HA := Lib.hid (And.intro ht hn)
  have HFLD := Lib.hid (fun (W : World) (hb : Below w.heap.size w W) => rField_own l.field tv W (ht.below hb (Nat.le_refl _)) hl)
  obtain ⟨nn, hnn⟩ : ∃ nn, l.notes.length = nn := ⟨_, rfl⟩
  have HNN := Lib.hid hnn
  rw [hnn] at hl2 ⊢
  clear ht hn hnn
  go_enter Tryz.func22, Tryz.ntmps22
  go_upto_region 1 with (fail)
  refine gworld fun W1 hW1 => ?_
  have hB1 : Below w.heap.size w W1 := by rw [hW1]; exact (by repeat (first | exact Below.refl _ _ | assumption | refine bgo ?_ (by assumption) | refine bgoAlloc ?_ _ | refine bgoDrew ?_ | refine bgoSet ?_ (by simp; omega) _))
  have hA0 : W1.heap[w.heap.size]? = some (.cells (lcells l tv (.slice no nn nc)) 30 (0, 0)) := by rw [hW1]; exact (Below.heap_alloc _ _ _ (by simp)).trans (heap_new0 _ _)
  have hA1 : W1.heap[w.heap.size + 1]? = some (.cells #[iv 0, iv 0, iv 0, iv 0, .slice none 0 0, iv 0, iv 0, iv 0, .slice none 0 0] 44 (0, 0)) := by rw [hW1]; exact heap_new1 _ _ _
  have HA1 := Lib.hid (And.intro hB1 (And.intro hA0 hA1))
  obtain ⟨c0, f0, l0⟩ := cells_of_block hA0
  have s1 := (Array.getElem?_eq_some_iff.1 hA1).1
  clear hA0 hA1 hW1 hB1
  refine wp_region_rg 10 [] none [(2, ⟨fun _ v => ∃ o c, v = fv l.field (.slice o l.field.tallies.length c), fun _ v Wx => ∃ o c, v = fv l.field (.slice o l.field.tallies.length c) ∧ Wx.ownsRow W1.heap.size 157 5 (.slice o l.field.tallies.length c) l.field.tallies.length (tlyCells l.field.tallies)⟩), (7, Spec.val (rv l.box)), (9, Spec.block W1.heap.size #[iv 0, iv 0, iv 0, iv 0, .slice none 0 0, iv 0, iv 0, iv 0, .slice none 0 0] 44)] (by as_aux_lemma => kernel_rfl) (by as_aux_lemma => kernel_rfl) ?_
  simp only [List.take_succ_cons, List.take_zero, List.drop_succ_cons, List.drop_zero]
  repeat (first | (refine tree_det (by rfl) _ (by rfl) (fun W hW => by go_simp; (try simp (disch := omega) only [IntWalk.i64_in]); try rfl) ?_; simp only [Act.put, List.setIfInBounds_toArray, List.set_cons_succ, List.set_cons_zero]) | (refine tree_skip (by rfl) (by rfl) ?_; simp only [Act.put, List.setIfInBounds_toArray, List.set_cons_succ, List.set_cons_zero]))
  refine tree_some _ (by rfl) (by rfl) (by exact ⟨_, none, 0, rfl⟩) (fun Wa hE hF => ?_) (fun v Wa Wb ho hE => ?_) (fun v hv => ?_)
  · have hE' : Ext [] W1 Wa := hE
    refine does_enter 54 #[fv l.field tv] (by go_simp; try rfl) ?_
    refine (HFLD.out Wa (bgo HA1.out.1 hE'.below)).mono ?_
    rintro e W' ⟨tv', rfl, ht', hb⟩
    obtain ⟨o, c, rfl⟩ := owns_slice ht'
    exact ⟨_, rfl, ⟨o, c, rfl⟩, ⟨o, c, rfl, owns_base ht' hE'.size⟩, Ext.of_below hb⟩
  · obtain ⟨o, c, hv, h1⟩ := ho
    exact ⟨o, c, hv, owns_ext (Ms := []) h1 (show Ext [] Wa Wb from hE) (by simp)⟩
  obtain ⟨to, tc, rfl⟩ := hv
  simp only [Act.put, List.setIfInBounds_toArray, List.set_cons_succ, List.set_cons_zero]
  repeat (first | (refine tree_det (by rfl) _ (by rfl) (fun W hW => by go_simp; (try simp (disch := omega) only [IntWalk.i64_in]); try rfl) ?_; simp only [Act.put, List.setIfInBounds_toArray, List.set_cons_succ, List.set_cons_zero]) | (refine tree_skip (by rfl) (by rfl) ?_; simp only [Act.put, List.setIfInBounds_toArray, List.set_cons_succ, List.set_cons_zero]))
  refine tree_val _ (by rfl) (by rfl) 31 #[rv l.box] (fun W hW => by go_simp; try rfl) (fun W hE hF => by exact zto_any l.box W) ?_
  simp only [Act.put, List.setIfInBounds_toArray, List.set_cons_succ, List.set_cons_zero]
  repeat (first | (refine tree_det (by rfl) _ (by rfl) (fun W hW => by go_simp; (try simp (disch := omega) only [IntWalk.i64_in]); try rfl) ?_; simp only [Act.put, List.setIfInBounds_toArray, List.set_cons_succ, List.set_cons_zero]) | (refine tree_skip (by rfl) (by rfl) ?_; simp only [Act.put, List.setIfInBounds_toArray, List.set_cons_succ, List.set_cons_zero]))
  refine tree_block W1.heap.size _ _ (by rfl) (Nat.le_refl _) (by rfl) (by simp) (by simp) (fun W hW => by go_simp; try rfl) (fun b3 => ?_)
  simp only [Act.put, List.setIfInBounds_toArray, List.set_cons_succ, List.set_cons_zero]
  (try simp only [])
  intro W2 hE hF
  have hE' : Ext [] W1 W2 := hE
  obtain ⟨b3', hb3, hbB, hblk⟩ := hF _ (List.Mem.head _)
  cases hb3
  obtain ⟨o', c', he, htal⟩ := hF _ (List.Mem.tail _ (List.Mem.head _))
  cases he
  have hB2 := bgo HA1.out.1 hE'.below
  have HA2 := Lib.hid (And.intro ((hE'.block _ l0 (by simp)).trans HA1.out.2.1) (And.intro ((hE'.block _ s1 (by simp)).trans HA1.out.2.2) (And.intro hblk (And.intro hB2 htal))))
  obtain ⟨hc3, hf3, hl3⟩ := cells_of_block hblk
  have hb3w : w.heap.size + 2 ≤ b3 := by omega
  clear hE hF hE' hblk hB2 htal c0 f0
  go_upto_region 2 with (fail)
  refine gworld fun W3 hW3 => ?_
  have hE3 : Ext [b3] W2 W3 := by rw [hW3]; exact ext_nine _ _ _ _ _ _ _ _ _ _ _
  have hblk3 : W3.heap[b3]? = some (.cells (lcells l (.slice to l.field.tallies.length tc) (.slice none 0 0)) 44 (0, 0)) := by rw [hW3]; exact set_nine HA2.out.2.2.1 _ _ _ _ _ _ _ _ _
  have hB3 : Below w.heap.size w W3 := below_of_ext HA2.out.2.2.2.1 hE3 (by omega)
  have hls3 : W3.heap.size = W3.heap.size := rfl
  have hot3 : ∀ g, g < W2.heap.size → g ≠ b3 → W3.heap[g]? = W2.heap[g]? := fun g hg hne => hE3.block g hg (by simpa using hne)
  have hb33 : b3 < W3.heap.size := (Array.getElem?_eq_some_iff.1 hblk3).1
  have hs12 : w.heap.size + 1 < W2.heap.size := (Array.getElem?_eq_some_iff.1 HA2.out.2.1).1
  have htb : ∀ x ∈ [b3], (Value.slice to l.field.tallies.length tc).ownBlock ≠ some x := by
    intro x hx e
    obtain rfl : x = b3 := by simpa using hx
    obtain ⟨_, ⟨h2, _⟩ | ⟨g, cap, cur, h2, _, hgb, _⟩⟩ := HA2.out.2.2.2.2
    · rw [h2] at e; cases e
    · rw [h2] at e
      obtain rfl : g = x := by simpa [Value.ownBlock] using e
      rw [HA2.out.2.2.1] at hgb
      injection hgb with hgb
      injection hgb with _ hgb _
      exact absurd hgb (by decide)
  have htal3 := (SlAt.of_owns HA2.out.2.2.2.2).ext hE3 htb
  have HTG := Lib.hid (show ∀ g, (Value.slice to l.field.tallies.length tc).ownBlock = some g → W1.heap.size ≤ g ∧ g ≠ b3 from fun g hg => ⟨(owns_ge HA2.out.2.2.2.2 g hg).1, fun e => htb b3 (by simp) (by rw [← e]; exact hg)⟩)
  have HA3 := Lib.hid (And.intro ((hot3 w.heap.size (by omega) (by omega)).trans HA2.out.1) (And.intro ((hot3 (w.heap.size + 1) hs12 (by omega)).trans HA2.out.2.1) (And.intro hblk3 (And.intro hB3 htal3))))
  clear hW3 hblk3 hB3 hot3 hc3 hf3 hl3 hE3 htal3 htb hls3
  go_wp2_with fail
  go_loopw [4] (fun u wq => ∃ k : Nat, k ≤ nn ∧ u = .int .i64 k ∧ ∃ o2 c2, wq.heap[b3]? = some (.cells (lcells l (.slice to l.field.tallies.length tc) (.slice o2 k c2)) 44 (0, 0)) ∧
      wq.ownsRow W3.heap.size 122 3 (.slice o2 k c2) k (tripleCells (l.notes.take k)) ∧ Below w.heap.size w wq ∧ W3.heap.size ≤ wq.heap.size ∧ ∀ c, c < W3.heap.size → c ≠ b3 → wq.heap[c]? = W3.heap[c]?) (fun u _ => nn - (intOf u).toNat)
  case atStart => exact ⟨0, Nat.zero_le _, rfl, none, 0, HA3.out.2.2.1, ⟨rfl, .inl ⟨rfl, rfl⟩⟩, HA3.out.2.2.2.1, Nat.le_refl _, fun _ _ _ => rfl⟩
  case round =>
    obtain ⟨k, hk, rfl, o2, c2, hblk, hown, hB, hsw, hkeep⟩ := hrel
    have ha0 := (hkeep w.heap.size (by omega) (by omega)).trans HA3.out.1
    obtain ⟨hcr0, hfr0, hsr0⟩ := cells_of_block ha0
    obtain ⟨hcr2, hfr2, hsr2⟩ := cells_of_block hblk
    have hHX := HA.out.2.below hB (Nat.le_refl _)
    have HK := Lib.hid (And.intro hblk (And.intro hown (And.intro hB (And.intro hsw hkeep))))
    clear hblk hown hB hkeep ha0
    by_cases hlk : k < nn
    · have hlkn : k < l.notes.length := by rw [HNN.out]; exact hlk
      obtain ⟨b, off, hvb, hb1, d0, d1, d2⟩ := TriplesAt.cell (show SlAt 3 wr (.slice no l.notes.length nc) l.notes.length (tripleCells l.notes) from hHX) hlkn
      have hltI : (k : Int) < nn := by omega
      have htk : tripleCells (l.notes.take (k + 1)) = tripleCells (l.notes.take k) ++ tripleCells [l.notes[k]] := by
        rw [List.take_succ_eq_append_getElem hlkn, noteCells_snoc]
      generalize l.notes[k] = x at *
      clear hHX hlkn
      obtain ⟨x0, x1, x2⟩ := x
      simp only at d0 d1 d2
      cases hvb
      have HTK := Lib.hid htk
      clear htk
      go_wp2_with fail
      refine wp_region_rg 17 [] none [(14, Spec.val (rv (x1, x2))), (16, Spec.slice wr.heap.size #[iv x0, iv x1, iv x2] 122 1)] (by as_aux_lemma => kernel_rfl) (by as_aux_lemma => kernel_rfl) ?_
      simp only [List.take_succ_cons, List.take_zero, List.drop_succ_cons, List.drop_zero]
      repeat (first | (refine tree_det (by rfl) _ (by rfl) (fun W hW => by go_simp; (try simp (disch := omega) only [IntWalk.i64_in]); try rfl) ?_; simp only [Act.put, List.setIfInBounds_toArray, List.set_cons_succ, List.set_cons_zero]) | (refine tree_skip (by rfl) (by rfl) ?_; simp only [Act.put, List.setIfInBounds_toArray, List.set_cons_succ, List.set_cons_zero]))
      refine tree_val _ (by rfl) (by rfl) 31 #[rv (x1, x2)] (fun W hW => by go_simp; try rfl) (fun W hE hF => by exact zto_any (x1, x2) W) ?_
      simp only [Act.put, List.setIfInBounds_toArray, List.set_cons_succ, List.set_cons_zero]
      repeat (first | (refine tree_det (by rfl) _ (by rfl) (fun W hW => by go_simp; (try simp (disch := omega) only [IntWalk.i64_in]); try rfl) ?_; simp only [Act.put, List.setIfInBounds_toArray, List.set_cons_succ, List.set_cons_zero]) | (refine tree_skip (by rfl) (by rfl) ?_; simp only [Act.put, List.setIfInBounds_toArray, List.set_cons_succ, List.set_cons_zero]))
      refine tree_slice wr.heap.size _ _ _ (by rfl) (Nat.le_refl _) (by rfl) (by simp) (by simp) (fun W hW => by go_simp; try rfl) (fun b8 => ?_)
      simp only [Act.put, List.setIfInBounds_toArray, List.set_cons_succ, List.set_cons_zero]
      intro W6 hE6 hF6
      have hE6' : Ext [] wr W6 := hE6
      obtain ⟨b8', hb8, hbB8, hblk8⟩ := hF6 _ (List.Mem.head _)
      cases hb8
      have HE6 := Lib.hid hE6'
      have HBK := Lib.hid hblk8
      have HOW6 := Lib.hid (owns_ext (Ms := []) HK.out.2.1 hE6' (by simp))
      have hz6 := hE6'.size
      clear hE6 hF6 hE6' hblk8 hcr0 hfr0 hsr0 hcr2 hfr2 d0 d1 d2 hb1
      go_wp2_with (at_builtin; go_loud (refine wpList_append_at rfl _ _ tNotes rfl W3.heap.size (.slice o2 k c2) k (tripleCells (l.notes.take k)) rfl HOW6.out (.slice (some ⟨b8, 0, none⟩) 1 1) 1 (tripleCells [(x0, x1, x2)]) rfl (SlAt.of_block 3 1 HBK.out rfl (by decide)) (one_triples _) (by omega) (by omega) (by omega) ?_))
      intro v' W7 hown7 hgr7 _
      obtain ⟨o7, c7, rfl⟩ := owns_slice hown7
      have HP := Lib.hid (ap_push (i := 8) (u := .slice o7 (k + 1) c7) HK.out.2.2.1 HK.out.2.1 HE6.out hown7 hgr7 hsw hb33 (by omega) HK.out.1)
      obtain ⟨hcr7, hfr7, hsr7⟩ := cells_of_block (((ap_push0 HK.out.2.2.1 HK.out.2.1 HE6.out hown7 hgr7 (by omega) hsw).2.2 b3 hb33).trans HK.out.1)
      clear hown7 hgr7
      go_wp2_with fail
      go_roundw
      case rel =>
        refine ⟨k + 1, by omega, by go_num, o7, c7, ?_⟩
        rw [HTK.out]
        exact ⟨HP.out.2.2.2.1, HP.out.2.2.1, HP.out.1, HP.out.2.1, fun c hc hne => (HP.out.2.2.2.2 c hc hne).trans (HK.out.2.2.2.2 c hc hne)⟩
      case measure => simp [intOf]; omega
    · have hkn : k = nn := by omega
      have hnl : ¬ (k : Int) < nn := by omega
      have hres := (HK.out.2.2.2.2 (w.heap.size + 1) (by omega) (by omega)).trans HA3.out.2.1
      obtain ⟨hcr1, hfr1, hsr1⟩ := cells_of_block hres
      have HRES := Lib.hid hres
      clear hres hHX
      subst hkn
      go_wp2_with fail
      have hE9 := ext_nine wr (w.heap.size + 1) (iv l.field.rows) (iv l.field.weeders) (iv l.field.left.1) (iv l.field.left.2) (.slice to l.field.tallies.length tc) (iv l.rate) (iv l.box.1) (iv l.box.2) (.slice o2 k c2)
      have hset := set_nine HRES.out (iv l.field.rows) (iv l.field.weeders) (iv l.field.left.1) (iv l.field.left.2) (.slice to l.field.tallies.length tc) (iv l.rate) (iv l.box.1) (iv l.box.2) (.slice o2 k c2)
      generalize ((((((((wr.setCell ⟨w.heap.size + 1, 0, none⟩ (iv l.field.rows)).setCell ⟨w.heap.size + 1, 1, none⟩ (iv l.field.weeders)).setCell ⟨w.heap.size + 1, 2, none⟩ (iv l.field.left.1)).setCell ⟨w.heap.size + 1, 3, none⟩ (iv l.field.left.2)).setCell ⟨w.heap.size + 1, 4, none⟩ (.slice to l.field.tallies.length tc)).setCell ⟨w.heap.size + 1, 5, none⟩ (iv l.rate)).setCell ⟨w.heap.size + 1, 6, none⟩ (iv l.box.1)).setCell ⟨w.heap.size + 1, 7, none⟩ (iv l.box.2)).setCell ⟨w.heap.size + 1, 8, none⟩ (.slice o2 k c2) = X at *
      refine bodyPost_ret (v := lv l (.slice to l.field.tallies.length tc) (.slice o2 k c2)) (results_cell_row Tryz.results22 _ _ (w.heap.size + 1) _ _ (0, 0) _ rfl hset Tryz.underlying44 rfl (by kernel_rfl)) rfl ?_
      refine ⟨_, _, rfl, ?_, ?_, below_of_ext HK.out.2.2.1 hE9 (by omega)⟩
      · refine (HA3.out.2.2.2.2.kept (w' := wr) fun b off n c e hb => ?_).ext hE9 fun x hx e => ?_
        · exact HK.out.2.2.2.2 b hb (HTG.out b (by rw [e]; rfl)).2
        · obtain rfl : x = w.heap.size + 1 := by simpa using hx
          have := (HTG.out _ e).1
          omega
      · have hown := HK.out.2.1
        rw [← HNN.out, List.take_length, HNN.out] at hown
        have hx := SlAt.of_owns (owns_ext' hown hE9 fun x hx e => by
          obtain rfl : x = w.heap.size + 1 := by simpa using hx
          have := (owns_ge hown _ e).1
          omega)
        unfold TriplesAt
        rw [HNN.out]
        exact hx
end Go.Proofs.YtdjgikcnmokjkaaGreat

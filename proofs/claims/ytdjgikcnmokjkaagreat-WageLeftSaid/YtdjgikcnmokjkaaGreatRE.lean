/-
  Contracts of the reference of package weed, fifth part: Truths.
  Contracts of the law of package weed: to, Field, IsRows.
  Contracts of the law of package weed: IsRows, of an increasing list.
-/
import Derived.WalkKit
import Derived.WalkLawsBesides
import Derived.WalkSpells
import Derived.Outline
import Derived.Handy
import Derived.KernelRfl
import Derived.Lib.Hide
import Derived.Deep.Cut
import Derived.Test.YtdjgikcnmokjkaaGreatRA
import Derived.Laws.BitsLemmas
namespace Go.Proofs.YtdjgikcnmokjkaaGreat
open Go.RowKit Go.RG Go.SL Go.Shelf Cou Go.TB
set_option maxHeartbeats 400000
set_option maxRecDepth 10000

theorem tLists : SliceT Tryz.prog 46 52 (.slice none 0 0) 1 24 := ⟨Tryz.underlying46, by kernel_rfl, rfl, by omega⟩

/-- A list with its slice. -/
abbrev LE := Value × List Int
def leCells (es : List LE) : List Value := es.map (·.1)

/-- Lists that a call has gathered: its own blocks, all different from the slice's one. -/
structure Les (base : Nat) (v : Value) (es : List LE) (W : World) : Prop where
  row : W.ownsRow base 52 1 v es.length (leCells es)
  each : ∀ e ∈ es, W.ownsRow base 3 1 e.1 e.2.length (intCells e.2) ∧ ∀ g, e.1.ownBlock = some g → v.ownBlock ≠ some g

theorem Les.ext {base : Nat} {v : Value} {es : List LE} {W W' : World} (h : Les base v es W) (hE : Ext [] W W') : Les base v es W' :=
  ⟨owns_ext (Ms := []) h.row hE (by simp), fun e he => ⟨owns_ext (Ms := []) (h.each e he).1 hE (by simp), (h.each e he).2⟩⟩

theorem les_push {base : Nat} {W W8 W9 : World} {v v' : Value} {es : List LE} {e : LE} (hT : Les base v es W) (hE : Ext [] W W8) (hG : W8.grownBy W9 v.ownBlock) (hN : v'.ownBlock = v.ownBlock ∨ v'.ownBlock = some W8.heap.size)
    (hO : W9.ownsRow base 52 1 v' (es.length + 1) (leCells es ++ [e.1])) (hC : W8.ownsRow W.heap.size 3 1 e.1 e.2.length (intCells e.2)) (hb : base ≤ W.heap.size) : Les base v' (es ++ [e]) W9 := by
  have hz := hE.size
  have hcb := owns_ge hC
  have hvb := owns_ge hT.row
  refine ⟨?_, fun x hx => ?_⟩
  · rw [List.length_append]
    have : leCells (es ++ [e]) = leCells es ++ [e.1] := by simp [leCells]
    rw [this]
    exact hO
  · rcases List.mem_append.1 hx with hx | hx
    · obtain ⟨k1, k2⟩ := hT.each x hx
      have kb := owns_ge k1
      refine ⟨owns_keep k1 fun g hg => (hG.block g (by have := (kb g hg).2; omega) (fun e1 => k2 g hg e1.symm)).trans (hE.block g (kb g hg).2 (by simp)), fun g hg e1 => ?_⟩
      rcases hN with hN | hN
      · exact k2 g hg (by rw [← hN, e1])
      · rw [e1] at hN
        injection hN with hN
        have := (kb g hg).2
        omega
    · obtain rfl : x = e := by simpa using hx
      refine ⟨owns_base (owns_keep hC fun g hg => hG.block g (hcb g hg).2 (fun e1 => by have := (hvb g e1.symm).2; have := (hcb g hg).1; omega)) hb, fun g hg e1 => ?_⟩
      rcases hN with hN | hN
      · have := (hvb g (by rw [← hN, e1])).2; have := (hcb g hg).1; omega
      · rw [e1] at hN
        injection hN with hN
        have := (hcb g hg).2; omega

/-- Lists that are read. -/
def ListsAt (w : World) (v : Value) (es : List LE) : Prop := SlAt 1 w v es.length (leCells es) ∧ ∀ e ∈ es, IntsAt w e.1 e.2
/-- It returns lists that read so; nothing that was there has turned. -/
def PLists (l : List (List Int)) (w : World) (e : Ending) (w' : World) : Prop := ∃ v es, e = .returned v ∧ ListsAt w' v es ∧ es.map (·.2) = l ∧ Below w.heap.size w w'

/-- The reference's truths: the lists with numbers that are truths, in the numbers' order. -/
def rtruthsTo (f : FieldD) : Nat → List (List Int)
  | 0 => []
  | k + 1 => if rightF f [] (nthW (rangesF f) k) then rtruthsTo f k ++ [nthW (rangesF f) k] else rtruthsTo f k
def rtruths (f : FieldD) : List (List Int) := rtruthsTo f ((f.weeders + 1) ^ f.rows.toNat).toNat
theorem rtruthsTo_len (f : FieldD) : ∀ k, (rtruthsTo f k).length ≤ k := by
  intro k
  induction k with
  | zero => exact Nat.le_refl 0
  | succ k ih =>
    unfold rtruthsTo
    split
    · rw [List.length_append]; simp; omega
    · omega
theorem mem_rtruthsTo {f : FieldD} {x : List Int} : ∀ k, x ∈ rtruthsTo f k ↔ rightF f [] x = true ∧ ∃ n : Nat, n < k ∧ nthW (rangesF f) n = x := by
  intro k
  induction k with
  | zero => simp [rtruthsTo]
  | succ k ih =>
    unfold rtruthsTo
    split
    · rename_i h
      rw [List.mem_append, ih]
      constructor
      · rintro (⟨h1, n, h2, h3⟩ | hx)
        · exact ⟨h1, n, by omega, h3⟩
        · obtain rfl : x = _ := by simpa using hx
          exact ⟨h, k, by omega, rfl⟩
      · rintro ⟨h1, n, h2, h3⟩
        by_cases e : n = k
        · subst e; right; simp [h3]
        · exact .inl ⟨h1, n, by omega, h3⟩
    · rename_i h
      rw [ih]
      constructor
      · rintro ⟨h1, n, h2, h3⟩
        exact ⟨h1, n, by omega, h3⟩
      · rintro ⟨h1, n, h2, h3⟩
        refine ⟨h1, n, ?_, h3⟩
        by_cases e : n = k
        · subst e; rw [h3] at h; exact absurd h1 h
        · omega
/-- They are the field's truths. -/
theorem mem_rtruths {f : FieldD} (hS : SoundF f) {x : List Int} : x ∈ rtruths f ↔ x ∈ truthsF f [] := by
  unfold rtruths truthsF
  rw [mem_rtruthsTo, List.mem_filter]
  constructor
  · rintro ⟨h1, n, h2, rfl⟩
    exact ⟨nthF_mem hS _, h1⟩
  · rintro ⟨h1, h2⟩
    obtain ⟨n, h3, h4, h5⟩ := nthF_all hS h1
    rw [prod_rangesF] at h4
    exact ⟨h2, n.toNat, by omega, by rw [show ((n.toNat : Nat) : Int) = n from by omega]; exact h5⟩

set_option maxHeartbeats 2000000 in
theorem rTruths_any (f : FieldD) (hS : SoundF f) (tv : Value) (w : World) (ht : TalliesAt w tv f.tallies) :
    Calls Tryz.prog 34 #[fv f tv] w (PLists (rtruths f) w) := by
  obtain ⟨to, tc, rfl⟩ := ht.open
  have hr0 := hS.rows0
  have hr1 := hS.rows1
  have hw0 := hS.weed0
  have hw1 := hS.weed1
  have hp := (powF_bd' (b := f.weeders + 1) (by omega) (by omega) f.rows.toNat (by omega)).1
  have hm := hS.many
  obtain ⟨M, hM⟩ : ∃ M : Nat, (f.weeders + 1) ^ f.rows.toNat = M := ⟨((f.weeders + 1) ^ f.rows.toNat).toNat, by omega⟩
  have HMA := Lib.hid (fun W => rMany_any f (.slice to f.tallies.length tc) W hr0 hr1 hw0 hw1)
  rw [hM] at hm HMA
  have hM25 : M ≤ 2500 := by omega
  have HEND : Hid (rtruths f = rtruthsTo f M) := Lib.hid (by unfold rtruths; rw [hM, Int.toNat_natCast])
  have HNT := Lib.hid (fun (k : Nat) (hk : k < M) W => rNth_any f hS (.slice to f.tallies.length tc) k (by omega) (by omega) W)
  have HIT := Lib.hid (fun l hl lv W h1 h2 => rIsTruth_any f hS (.slice to f.tallies.length tc) lv l hl W h1 h2)
  have HMEM := Lib.hid (fun n => nthF_mem hS n)
  have HLN := Lib.hid (fun (l : List Int) (hl : l ∈ allF f) => (mem_allF.1 hl).1)
  have HT := Lib.hid ht
  clear ht hS hp hm hM
  go_enter Tryz.func34, Tryz.ntmps34
  go_wp2_with fail
  refine gworld fun W0 hW0 => ?_
  have hB0 : Below w.heap.size w W0 := by rw [hW0]; exact (by repeat (first | exact Below.refl _ _ | assumption | refine bgo ?_ (by assumption) | refine bgoAlloc ?_ _ | refine bgoDrew ?_ | refine bgoSet ?_ (by simp; omega) _))
  have hK0 : W0.heap[w.heap.size]? = some (.cells (rfcells f (.slice to f.tallies.length tc)) 26 (0, 0)) := by rw [hW0]; exact heap_new0 _ _
  have H0 := Lib.hid (And.intro hB0 hK0)
  clear hW0 hB0 hK0
  go_loopw [3, 4] (fun b u wr => ∃ k : Nat, k ≤ M ∧ u = .int .i64 k ∧ ∃ (es : List LE) (oo : Option Addr) (oc : Nat), b = .slice oo es.length oc ∧ es.length ≤ k ∧ es.map (·.2) = rtruthsTo f k ∧ Les W0.heap.size (.slice oo es.length oc) es wr ∧ Below W0.heap.size W0 wr) (fun _ u _ => M - (intOf u).toNat)
  case atStart => exact ⟨0, Nat.zero_le _, rfl, [], none, 0, rfl, Nat.le_refl _, rfl, ⟨⟨rfl, .inl ⟨rfl, rfl⟩⟩, fun e he => by cases he⟩, Below.refl _ _⟩
  case round =>
    obtain ⟨k, hk, rfl, es, oo, oc, rfl, hek, hes, hT, hB⟩ := hrel
    obtain ⟨hc1, hf1, hs1⟩ := cells_of_block ((hB.block _ (cells_of_block H0.out.2).2.2).trans H0.out.2)
    have HES := Lib.hid hes
    have HLS := Lib.hid hT
    have HB := Lib.hid (And.intro hB (bgo H0.out.1 hB))
    clear hes hT hB
    go_wp2_with fail
    refine (HMA.out _).mono ?_
    rintro e W2 ⟨rfl, hb2⟩
    have HB2 := Lib.hid hb2
    obtain ⟨hc2, hf2, hs2⟩ := cells_of_block ((hb2.block _ hs1).trans ((HB.out.1.block _ (cells_of_block H0.out.2).2.2).trans H0.out.2))
    clear hb2 hc1 hf1
    by_cases hlt : k < M
    case neg =>
      obtain rfl : k = M := by omega
      go_wp2_with fail
      go_returns
      have HL2 := HLS.out.ext (Ext.of_below HB2.out)
      exact ⟨.slice oo es.length oc, es, by simp, ⟨SlAt.of_owns HL2.row, fun e he => SlAt.of_owns (HL2.each e he).1⟩, by rw [HES.out, HEND.out], bgo HB.out.2 HB2.out⟩
    have hltI : (k : Int) < M := by omega
    go_wp2_with fail
    refine (HNT.out k hlt _).mono ?_
    have hxm := HMEM.out (k : Int)
    obtain ⟨x, hx⟩ : ∃ x, nthW (rangesF f) (k : Int) = x := ⟨_, rfl⟩
    rw [hx] at hxm ⊢
    rintro e W3 ⟨v3, rfl, ho3, hb3⟩
    obtain ⟨o3, c3, rfl⟩ := owns_slice ho3
    have hiv := SlAt.of_owns ho3
    have hx7 := HLN.out x hxm
    have HIX := Lib.hid (HIT.out x hxm (.slice o3 x.length c3) W3 (HT.out.below (bgo HB.out.2 (bgo HB2.out hb3)) (Nat.le_refl _)) hiv)
    obtain ⟨q, hq⟩ : ∃ q, rightF f [] x = q := ⟨_, rfl⟩
    rw [hq] at HIX
    have HXQ := Lib.hid (And.intro hx hq)
    have HO3 := Lib.hid (And.intro ho3 hb3)
    obtain ⟨hc3, hf3, hs3⟩ := cells_of_block ((hb3.block _ hs2).trans ((HB2.out.block _ hs1).trans ((HB.out.1.block _ (cells_of_block H0.out.2).2.2).trans H0.out.2)))
    have hx7' : x.length ≤ 7 := by omega
    clear ho3 hb3 hxm hx hq hiv hx7 hc2 hf2 hs2 hs1
    go_wp2_with fail
    refine HIX.out.mono ?_
    rintro e W4 ⟨rfl, hb4⟩
    have HB4 := Lib.hid (And.intro hb4 (bgo HB.out.1 (bgo HB2.out (bgo HO3.out.2 hb4))))
    clear hb4 hc3 hf3
    cases q
    · go_wp2_with fail
      go_roundw
      case rel =>
        refine ⟨k + 1, by omega, by go_num, es, oo, oc, rfl, by omega, ?_, HLS.out.ext ((Ext.of_below HB2.out).trans ((Ext.of_below HO3.out.2).trans (Ext.of_below HB4.out.1))), HB4.out.2⟩
        unfold rtruthsTo
        rw [HXQ.out.1, HXQ.out.2, if_neg (by simp)]
        exact HES.out
      case measure => simp [intOf]; omega
    · have hz4 := HB4.out.2.size
      have hE4 : Ext [] wr W4 := (Ext.of_below HB2.out).trans ((Ext.of_below HO3.out.2).trans (Ext.of_below HB4.out.1))
      have HE4 := Lib.hid hE4
      clear hE4
      go_wp2_with (at_builtin; go_loud (refine wpList_append_at rfl _ _ tLists rfl W0.heap.size (.slice oo es.length oc) es.length (leCells es) rfl (owns_ext (Ms := []) HLS.out.row (HE4.out.trans (Ext.of_below ((Below.refl _ _).alloc (Nat.le_refl _) _))) (by simp)) (.slice (some ⟨W4.heap.size, 0, none⟩) 1 1) 1 [.slice o3 x.length c3] rfl (SlAt.of_block 1 1 (heap_new0 _ _) rfl (by decide)) (by intro u hu; simp at hu; subst hu; rfl) (by omega) (by omega) (by simp; omega) ?_))
      intro v' W6 hown6 hgr6 hn6
      obtain ⟨o6, c6, rfl⟩ := owns_slice hown6
      have hzr : wr.heap.size ≤ W2.heap.size := HB2.out.size
      have hpu := ap_push0 HB.out.1 HLS.out.row (HE4.out.trans (Ext.of_below ((Below.refl _ _).alloc (Nat.le_refl _) _))) hown6 hgr6 (Nat.le_refl _) HB.out.1.size
      have HTP := Lib.hid (les_push (e := (.slice o3 x.length c3, x)) HLS.out (HE4.out.trans (Ext.of_below ((Below.refl _ _).alloc (Nat.le_refl _) _))) hgr6 (by rw [World.size_alloc]; exact hn6) hown6 (owns_base (owns_ext (Ms := []) HO3.out.1 ((Ext.of_below HB4.out.1).trans (Ext.of_below ((Below.refl _ _).alloc (Nat.le_refl _) _))) (by simp)) hzr) HB.out.1.size)
      have HP := Lib.hid hpu
      clear hpu hown6 hgr6 hn6
      go_wp2_with fail
      go_roundw
      case rel =>
        refine ⟨k + 1, by omega, by go_num, es ++ [(.slice o3 x.length c3, x)], o6, c6, by simp, by simp; omega, ?_, by simpa using HTP.out, HP.out.1⟩
        unfold rtruthsTo
        rw [HXQ.out.1, HXQ.out.2, if_pos rfl, List.map_append, HES.out]
        rfl
      case measure => simp [intOf]; omega

end Go.Proofs.YtdjgikcnmokjkaaGreat

namespace Go.Proofs.YtdjgikcnmokjkaaGreat
open Go.RowKit Go.RG Go.SL Go.Shelf Cou Go.TB
set_option maxHeartbeats 400000
set_option maxRecDepth 10000

theorem set_five {w : World} {b : Nat} {t : TypeId} {fr : Nat × Nat} {a0 a1 a2 a3 a4 : Value} (h : w.heap[b]? = some (.cells #[a0, a1, a2, a3, a4] t fr)) (y0 y1 y2 y3 y4 : Value) :
    (((((w.setCell ⟨b, 0, none⟩ y0).setCell ⟨b, 1, none⟩ y1).setCell ⟨b, 2, none⟩ y2).setCell ⟨b, 3, none⟩ y3).setCell ⟨b, 4, none⟩ y4).heap[b]? = some (.cells #[y0, y1, y2, y3, y4] t fr) := by
  have := (set_block (o := 4) (set_block (o := 3) (set_block (o := 2) (set_block (o := 1) (set_block (o := 0) h y0) y1) y2) y3) y4)
  simpa using this
theorem five_other {W : World} {b g : Nat} (hg : g ≠ b) (y0 y1 y2 y3 y4 : Value) :
    (((((W.setCell ⟨b, 0, none⟩ y0).setCell ⟨b, 1, none⟩ y1).setCell ⟨b, 2, none⟩ y2).setCell ⟨b, 3, none⟩ y3).setCell ⟨b, 4, none⟩ y4).heap[g]? = W.heap[g]? := by
  exact (Below.heap_setCell _ _ _ _ hg).trans ((Below.heap_setCell _ _ _ _ hg).trans ((Below.heap_setCell _ _ _ _ hg).trans ((Below.heap_setCell _ _ _ _ hg).trans (Below.heap_setCell _ _ _ _ hg))))
theorem five_below {w W : World} {b : Nat} (hb : w.heap.size ≤ b) (h : Below w.heap.size w W) (y0 y1 y2 y3 y4 : Value) :
    Below w.heap.size w (((((W.setCell ⟨b, 0, none⟩ y0).setCell ⟨b, 1, none⟩ y1).setCell ⟨b, 2, none⟩ y2).setCell ⟨b, 3, none⟩ y3).setCell ⟨b, 4, none⟩ y4) :=
  bgoSet (bgoSet (bgoSet (bgoSet (bgoSet h hb _) hb _) hb _) hb _) hb _

theorem rto_any (r : Rng) (w : World) : Calls Tryz.prog 102 #[rv r] w (PV (rv r) w) := by
  go_enter Tryz.func102, Tryz.ntmps102
  go_wp2
  all_goals
    (try simp only [Exit.inBlock, Exit.then])
    refine bodyPost_ret (v := rv r) (by simp [results, Tryz.results102, go_sem]; try omega) rfl ?_
    exact ⟨rfl, (by repeat (first | exact Below.refl _ _ | assumption | refine bgo ?_ (by assumption) | refine bgoAlloc ?_ _ | refine bgoDrew ?_ | refine bgoSet ?_ (by simp; omega) _))⟩

theorem tTally : SliceT Tryz.prog 38 157 (tlyv (0, 0, 0, (0, 0))) 5 40 := ⟨Tryz.underlying38, by kernel_rfl, rfl, by omega⟩
theorem tlyCells_snoc (R : List Tly) (r : Tly) : tlyCells (R ++ [r]) = tlyCells R ++ tlyCells [r] := by simp [tlyCells]

/-- A field by value that reads as f, in a world; nothing that was there has turned. -/
def PField (f : FieldD) (w : World) (e : Ending) (w' : World) : Prop := ∃ tv, e = .returned (fv f tv) ∧ TalliesAt w' tv f.tallies ∧ Below w.heap.size w w'

def PFieldO (f : FieldD) (w : World) (e : Ending) (w' : World) : Prop := ∃ tv, e = .returned (fv f tv) ∧ w'.ownsRow w.heap.size 157 5 tv f.tallies.length (tlyCells f.tallies) ∧ Below w.heap.size w w'

theorem rField_own (f : FieldD) (tv : Value) (w : World) (ht : TalliesAt w tv f.tallies) (hl : f.tallies.length ≤ 1000) :
    Calls Tryz.prog 54 #[fv f tv] w (PFieldO f w) := by
  obtain ⟨to, tc, rfl⟩ := ht.open
  have HT := Lib.hid ht
  clear ht
  go_enter Tryz.func54, Tryz.ntmps54
  go_upto_region 1 with (fail)
  refine gworld fun W1 hW1 => ?_
  have HB1 := Lib.hid (show Below w.heap.size w W1 from by rw [hW1]; exact (by repeat (first | exact Below.refl _ _ | assumption | refine bgo ?_ (by assumption) | refine bgoAlloc ?_ _ | refine bgoDrew ?_ | refine bgoSet ?_ (by simp; omega) _)))
  have hA0 : W1.heap[w.heap.size]? = some (.cells (rfcells f (.slice to f.tallies.length tc)) 26 (0, 0)) := by rw [hW1]; exact (Below.heap_alloc _ _ _ (by first | omega | (simp; done) | (simp; omega))).trans (heap_new0 _ _)
  have hA1 : W1.heap[w.heap.size + 1]? = some (.cells #[iv 0, iv 0, iv 0, iv 0, .slice none 0 0] 40 (0, 0)) := by rw [hW1]; exact heap_new1 _ _ _
  have s0 := (Array.getElem?_eq_some_iff.1 hA0).1
  have s1 := (Array.getElem?_eq_some_iff.1 hA1).1
  have hcr := (cells_of_block hA0).1
  have HA := Lib.hid (And.intro hA0 hA1)
  clear hA0 hA1 hW1
  refine wp_region_rg 9 [] none [(6, Spec.val (rv f.left)), (8, Spec.block W1.heap.size #[iv 0, iv 0, iv 0, iv 0, .slice none 0 0] 40)] (by as_aux_lemma => kernel_rfl) (by as_aux_lemma => kernel_rfl) ?_
  simp only [List.take_succ_cons, List.take_zero, List.drop_succ_cons, List.drop_zero]
  repeat (first | (refine tree_det (by rfl) _ (by rfl) (fun W hW => by go_simp; (try simp (disch := omega) only [IntWalk.i64_in]); try rfl) ?_; simp only [Act.put, List.setIfInBounds_toArray, List.set_cons_succ, List.set_cons_zero]) | (refine tree_skip (by rfl) (by rfl) ?_; simp only [Act.put, List.setIfInBounds_toArray, List.set_cons_succ, List.set_cons_zero]))
  refine tree_val _ (by rfl) (by rfl) 102 _ (fun W hW => by go_simp; try rfl) (fun W hE hF => by exact rto_any f.left W) ?_
  simp only [Act.put, List.setIfInBounds_toArray, List.set_cons_succ, List.set_cons_zero]
  repeat (first | (refine tree_det (by rfl) _ (by rfl) (fun W hW => by go_simp; (try simp (disch := omega) only [IntWalk.i64_in]); try rfl) ?_; simp only [Act.put, List.setIfInBounds_toArray, List.set_cons_succ, List.set_cons_zero]) | (refine tree_skip (by rfl) (by rfl) ?_; simp only [Act.put, List.setIfInBounds_toArray, List.set_cons_succ, List.set_cons_zero]))
  refine tree_block W1.heap.size _ _ (by rfl) (Nat.le_refl _) (by rfl) (by simp) (by simp) (fun W hW => by go_simp; try rfl) (fun b3 => ?_)
  simp only [Act.put, List.setIfInBounds_toArray, List.set_cons_succ, List.set_cons_zero]
  intro W2 hE hF
  have hE' : Ext [] W1 W2 := hE
  obtain ⟨b3', hb3, hbB, hblk⟩ := hF _ (List.Mem.head _)
  cases hb3
  have hB2 := bgo HB1.out hE'.below
  have hs2 := hE'.size
  have hA2 : W2.heap[w.heap.size]? = some (.cells (rfcells f (.slice to f.tallies.length tc)) 26 (0, 0)) := (hE'.block _ s0 (by simp)).trans HA.out.1
  have hA3 : W2.heap[w.heap.size + 1]? = some (.cells #[iv 0, iv 0, iv 0, iv 0, .slice none 0 0] 40 (0, 0)) := (hE'.block _ s1 (by simp)).trans HA.out.2
  have HA2 := Lib.hid (And.intro hA2 (And.intro hA3 (And.intro hblk hB2)))
  obtain ⟨hc3, hf3, hl3⟩ := cells_of_block hblk
  have hb3w : w.heap.size + 2 ≤ b3 := by omega
  clear hE hF hE' hblk hA2 hA3 hB2 hcr s0 s1
  go_upto_region 2 with (fail)
  refine gworld fun W3 hW3 => ?_
  have hblk3 : W3.heap[b3]? = some (.cells #[iv f.rows, iv f.weeders, iv f.left.1, iv f.left.2, .slice none 0 0] 40 (0, 0)) := by rw [hW3]; exact set_five HA2.out.2.2.1 _ _ _ _ _
  have hot3 : ∀ g, g ≠ b3 → W3.heap[g]? = W2.heap[g]? := fun g hg => by rw [hW3]; exact five_other hg _ _ _ _ _
  have hB3 : Below w.heap.size w W3 := by rw [hW3]; exact five_below (by omega) HA2.out.2.2.2 _ _ _ _ _
  have hb33 : b3 < W3.heap.size := (Array.getElem?_eq_some_iff.1 hblk3).1
  have HA3 := Lib.hid (And.intro ((hot3 w.heap.size (by omega)).trans HA2.out.1) (And.intro ((hot3 (w.heap.size + 1) (by omega)).trans HA2.out.2.1) (And.intro hblk3 hB3)))
  clear hW3 hblk3 hot3 hB3 hc3 hf3 hl3 HA2 HA HB1 hs2
  go_wp2_with fail
  go_loopw [4] (fun u wq => ∃ k : Nat, k ≤ f.tallies.length ∧ u = .int .i64 k ∧ ∃ o2 c2, wq.heap[b3]? = some (.cells (fcells f (.slice o2 k c2)) 40 (0, 0)) ∧
      wq.ownsRow W3.heap.size 157 5 (.slice o2 k c2) k (tlyCells (f.tallies.take k)) ∧ Below w.heap.size w wq ∧ W3.heap.size ≤ wq.heap.size ∧ ∀ c, c < W3.heap.size → c ≠ b3 → wq.heap[c]? = W3.heap[c]?) (fun u _ => f.tallies.length - (intOf u).toNat)
  case atStart => exact ⟨0, Nat.zero_le _, rfl, none, 0, HA3.out.2.2.1, ⟨rfl, .inl ⟨rfl, rfl⟩⟩, HA3.out.2.2.2, Nat.le_refl _, fun _ _ _ => rfl⟩
  case round =>
    obtain ⟨k, hk, rfl, o2, c2, hblk, hown, hB, hsw, hkeep⟩ := hrel
    have ha0 := (hkeep w.heap.size (by omega) (by omega)).trans HA3.out.1
    obtain ⟨hcr0, hfr0, hsr0⟩ := cells_of_block ha0
    obtain ⟨hcr2, hfr2, hsr2⟩ := cells_of_block hblk
    have hHX := HT.out.below hB (Nat.le_refl _)
    have HK := Lib.hid (And.intro hblk (And.intro hown (And.intro hB (And.intro hsw hkeep))))
    have HA0 := Lib.hid ha0
    clear hblk hown hB hkeep ha0
    by_cases hlk : k < f.tallies.length
    · obtain ⟨b, off, rfl, hb1, d0, d1, d2, d3, d4⟩ := TalliesAt.cell hHX hlk
      have hltI : (k : Int) < f.tallies.length := by omega
      have htk : tlyCells (f.tallies.take (k + 1)) = tlyCells (f.tallies.take k) ++ tlyCells [f.tallies[k]] := by
        rw [List.take_succ_eq_append_getElem hlk, tlyCells_snoc]
      clear hHX
      generalize f.tallies[k] = x at *
      obtain ⟨x0, x1, x2, x3, x4⟩ := x
      simp only at d0 d1 d2 d3 d4
      have HTK := Lib.hid htk
      clear htk
      go_upto_region 6 with (fail)
      refine gworld fun W5 hW5 => ?_
      have hB5 : Below wr.heap.size wr W5 := by rw [hW5]; exact (by repeat (first | exact Below.refl _ _ | assumption | refine bgo ?_ (by assumption) | refine bgoAlloc ?_ _ | refine bgoDrew ?_ | refine bgoSet ?_ (by simp; omega) _))
      have hk5 : W5.heap[wr.heap.size]? = some (.cells #[iv x0, iv x1, iv x2, iv x3, iv x4] 155 (0, 0)) := by
        rw [hW5]
        first | exact heap_new0 _ _ | exact set_five (heap_new0 _ _) _ _ _ _ _
      have hkb := (hB5.block _ hsr2).trans HK.out.1
      have HK5 := Lib.hid (And.intro hB5 (And.intro hk5 hkb))
      clear hW5 hcr0 hfr0 hsr0 hcr2 hfr2 d0 d1 d2 d3 d4 hb1
      obtain ⟨e1, e2, e3⟩ := cells_of_block hk5
      obtain ⟨p1, p2, p3⟩ := cells_of_block hkb
      clear hB5 hk5 hkb
      refine wp_region_rg 13 [] none [(10, Spec.val (rv (x3, x4))), (12, Spec.slice W5.heap.size #[iv x0, iv x1, iv x2, iv x3, iv x4] 157 1)] (by as_aux_lemma => kernel_rfl) (by as_aux_lemma => kernel_rfl) ?_
      simp only [List.take_succ_cons, List.take_zero, List.drop_succ_cons, List.drop_zero]
      repeat (first | (refine tree_det (by rfl) _ (by rfl) (fun W hW => by go_simp; (try simp (disch := omega) only [IntWalk.i64_in]); try rfl) ?_; simp only [Act.put, List.setIfInBounds_toArray, List.set_cons_succ, List.set_cons_zero]) | (refine tree_skip (by rfl) (by rfl) ?_; simp only [Act.put, List.setIfInBounds_toArray, List.set_cons_succ, List.set_cons_zero]))
      refine tree_val _ (by rfl) (by rfl) 102 _ (fun W hW => by go_simp; try rfl) (fun W hE hF => by exact rto_any (x3, x4) W) ?_
      simp only [Act.put, List.setIfInBounds_toArray, List.set_cons_succ, List.set_cons_zero]
      repeat (first | (refine tree_det (by rfl) _ (by rfl) (fun W hW => by go_simp; (try simp (disch := omega) only [IntWalk.i64_in]); try rfl) ?_; simp only [Act.put, List.setIfInBounds_toArray, List.set_cons_succ, List.set_cons_zero]) | (refine tree_skip (by rfl) (by rfl) ?_; simp only [Act.put, List.setIfInBounds_toArray, List.set_cons_succ, List.set_cons_zero]))
      refine tree_slice W5.heap.size _ _ _ (by rfl) (Nat.le_refl _) (by rfl) (by simp) (by simp) (fun W hW => by go_simp; try rfl) (fun b8 => ?_)
      simp only [Act.put, List.setIfInBounds_toArray, List.set_cons_succ, List.set_cons_zero]
      intro W6 hE6 hF6
      have hE6' : Ext [] W5 W6 := hE6
      obtain ⟨b8', hb8, hbB8, hblk8⟩ := hF6 _ (List.Mem.head _)
      cases hb8
      have hE06 : Ext [] wr W6 := (Ext.of_below HK5.out.1).trans hE6'
      have HE6 := Lib.hid hE06
      have HBK := Lib.hid hblk8
      have HOW6 := Lib.hid (owns_ext (Ms := []) HK.out.2.1 hE06 (by simp))
      have hz6 := hE06.size
      clear hE6 hF6 hE6' hblk8 hE06 e1 e2 e3 p1 p2 p3
      go_wp2_with (at_builtin; go_loud (refine wpList_append_at rfl _ _ tTally rfl W3.heap.size (.slice o2 k c2) k (tlyCells (f.tallies.take k)) rfl HOW6.out (.slice (some ⟨b8, 0, none⟩) 1 1) 1 (tlyCells [(x0, x1, x2, (x3, x4))]) rfl (SlAt.of_block 5 1 HBK.out rfl (by decide)) (one_tallies _) (by omega) (by omega) (by omega) ?_))
      intro v' W7 hown7 hgr7 _
      obtain ⟨o7, c7, rfl⟩ := owns_slice hown7
      have HP := Lib.hid (ap_push (i := 4) (u := .slice o7 (k + 1) c7) HK.out.2.2.1 HK.out.2.1 HE6.out hown7 hgr7 hsw hb33 (by omega) HK.out.1)
      obtain ⟨hcr7, hfr7, hsr7⟩ := cells_of_block (((ap_push0 HK.out.2.2.1 HK.out.2.1 HE6.out hown7 hgr7 (by omega) hsw).2.2 b3 hb33).trans HK.out.1)
      clear hown7 hgr7
      go_wp2_with fail
      go_roundw
      case rel =>
        refine ⟨k + 1, by omega, by go_num, o7, c7, ?_⟩
        rw [HTK.out]
        exact ⟨HP.out.2.2.2.1, HP.out.2.2.1, HP.out.1, HP.out.2.1, fun c hc hne => (HP.out.2.2.2.2 c hc hne).trans (HK.out.2.2.2.2 c hc hne)⟩
      case measure => simp [intOf]; omega
    · obtain rfl : k = f.tallies.length := by omega
      clear hHX
      have hres := (HK.out.2.2.2.2 (w.heap.size + 1) (by omega) (by omega)).trans HA3.out.2.1
      obtain ⟨hcr1, hfr1, hsr1⟩ := cells_of_block hres
      have HRES := Lib.hid hres
      clear hres
      go_wp2_with fail
      refine bodyPost_ret (v := fv f (.slice o2 f.tallies.length c2)) (results_cell_row Tryz.results54 _ _ (w.heap.size + 1) _ _ (0, 0) _ rfl (set_five HRES.out _ _ _ _ _) Tryz.underlying40 rfl (by kernel_rfl)) rfl ?_
      refine ⟨_, rfl, ?_, five_below (by omega) HK.out.2.2.1 _ _ _ _ _⟩
      have := HK.out.2.1
      rw [List.take_length] at this
      refine owns_base (owns_keep this fun g hg => five_other ?_ _ _ _ _ _) HA3.out.2.2.2.size
      have := (owns_ge HK.out.2.1 g hg).1
      omega

theorem rField_any (f : FieldD) (tv : Value) (w : World) (ht : TalliesAt w tv f.tallies) (hl : f.tallies.length ≤ 1000) :
    Calls Tryz.prog 54 #[fv f tv] w (PField f w) := by
  refine (rField_own f tv w ht hl).mono ?_
  rintro e w' ⟨tv', rfl, h, hb⟩
  exact ⟨tv', rfl, SlAt.of_owns h, hb⟩

end Go.Proofs.YtdjgikcnmokjkaaGreat

namespace Go.Proofs.YtdjgikcnmokjkaaGreat
open Go.RowKit Go.RG Go.SL Go.Shelf Cou Go.TB
set_option maxHeartbeats 400000
set_option maxRecDepth 10000

theorem wraps63 (n : Int) (h₀ : 0 ≤ n) (h₁ : n < 2 ^ 63) : IntKind.i64.wrap n = n := by
  exact IntWalk.i64_in _ (by omega)
theorem or_nat (a b : Nat) (ha : a < 2 ^ 63) (hb : b < 2 ^ 63) : bits .or .i64 (a : Int) (b : Int) = ((a ||| b : Nat) : Int) := (bits_nat .i64 63 (by decide) wraps63 a b ha hb).2

theorem inc_at {p : Nat} {c : List Int} (h : Inc p 0 c) {k : Nat} (hk : k < c.length) : ∃ n : Nat, c[k] = (n : Int) ∧ n < p := by
  have := ((inc_pairwise _ _).1 h).2 c[k] (List.getElem_mem hk)
  exact ⟨c[k].toNat, by omega, by omega⟩
theorem inc_step {p : Nat} {c : List Int} (h : Inc p 0 c) {k : Nat} (hk : k + 1 < c.length) : c[k] < c[k + 1] :=
  List.pairwise_iff_getElem.1 ((inc_pairwise _ _).1 h).1 k (k + 1) (by omega) hk (by omega)
theorem ofBits_app (x : Int) : ∀ l : List Int, ofBits (l ++ [x]) = ofBits l ||| 2 ^ x.toNat := by
  intro l
  induction l with
  | nil => simp [ofBits]
  | cons y l ih =>
    show 2 ^ y.toNat ||| ofBits (l ++ [x]) = (2 ^ y.toNat ||| ofBits l) ||| 2 ^ x.toNat
    rw [ih, Nat.or_assoc]
theorem ofBits_take {c : List Int} {k n : Nat} (hk : k < c.length) (hn : c[k] = (n : Int)) : ofBits (c.take (k + 1)) = ofBits (c.take k) ||| 2 ^ n := by
  rw [List.take_succ_eq_append_getElem hk, ofBits_app, hn, Int.toNat_natCast]
theorem inc_take {p : Nat} {c : List Int} (h : Inc p 0 c) (k : Nat) : Inc p 0 (c.take k) := by
  obtain ⟨h1, h2⟩ := (inc_pairwise _ _).1 h
  exact (inc_pairwise _ _).2 ⟨h1.sublist (List.take_sublist k c), fun x hx => h2 x (List.mem_of_mem_take hx)⟩

theorem rIsRows_any (f : FieldD) (hr0 : 1 ≤ f.rows) (hr1 : f.rows ≤ 7) (tv lv : Value) (c : List Int) (hc : Inc f.rows.toNat 0 c) (w : World) (h : IntsAt w lv c) :
    Calls Tryz.prog 48 #[fv f tv, lv] w (PV (.tuple #[iv (ofBits c : Nat), .bool true]) w) := by
  obtain ⟨o, cap, rfl⟩ := h.open
  have HL := Lib.hid h
  have HI := Lib.hid hc
  have hcl := hc.len
  have hcl7 : c.length ≤ 7 := by omega
  obtain ⟨R, hR⟩ : ∃ R : Nat, f.rows = R := ⟨f.rows.toNat, by omega⟩
  have hRt : f.rows.toNat = R := by omega
  rw [hRt] at HI
  have hR7 : R ≤ 7 := by omega
  have HR := Lib.hid hR
  clear h hc hcl hRt hR
  obtain ⟨q, hq⟩ : ∃ q, ofBits c = q := ⟨_, rfl⟩
  rw [hq]
  have HQ := Lib.hid hq
  clear hq
  go_enter Tryz.func48, Tryz.ntmps48
  go_wp2_with fail
  refine gworld fun W0 hW0 => ?_
  have hB0 : Below w.heap.size w W0 := by rw [hW0]; exact (by repeat (first | exact Below.refl _ _ | assumption | refine bgo ?_ (by assumption) | refine bgoAlloc ?_ _ | refine bgoDrew ?_ | refine bgoSet ?_ (by simp; omega) _))
  have hK0 : W0.heap[w.heap.size]? = some (.cells (rfcells f tv) 26 (0, 0)) := by rw [hW0]; exact heap_new0 _ _
  have H0 := Lib.hid (And.intro hB0 hK0)
  clear hW0 hB0 hK0
  go_loopw [6, 7] (fun u i wr => ∃ k : Nat, k ≤ c.length ∧ i = .int .i64 k ∧ u = .int .i64 ((ofBits (c.take k) : Nat) : Int) ∧ Below W0.heap.size W0 wr) (fun _ i _ => c.length - (intOf i).toNat)
  case atStart => exact ⟨0, Nat.zero_le _, rfl, rfl, Below.refl _ _⟩
  case round =>
    obtain ⟨k, hk, rfl, rfl, hB⟩ := hrel
    have hBB := bgo H0.out.1 hB
    obtain ⟨c1, f1, l1⟩ := cells_of_block ((hB.block _ (cells_of_block H0.out.2).2.2).trans H0.out.2)
    have HB := Lib.hid (And.intro hB hBB)
    by_cases hlt : k < c.length
    · obtain ⟨g, off, rfl, hg, d1⟩ := IntsAt.cell (HL.out.below hBB (Nat.le_refl _)) hlt
      obtain ⟨n, hn, hn5⟩ := inc_at HI.out hlt
      have hob := ofBits_lt (inc_take HI.out k)
      have hpo : 2 ^ R ≤ 2 ^ 7 := Nat.pow_le_pow_right (by omega) hR7
      have hta := ofBits_take hlt hn
      have hb128 : ofBits (c.take k) ≤ 127 := by omega
      generalize hbk : ofBits (c.take k) = b at *
      have hltI : (k : Int) < c.length := by omega
      obtain ⟨hp1, hp2⟩ := pow_bd (show n ≤ 6 by omega)
      have hp1N : 1 ≤ 2 ^ n := Nat.one_le_two_pow
      have hp2N : 2 ^ n ≤ 2 ^ 6 := Nat.pow_le_pow_right (by omega) (by omega)
      have hor : bits .or .i64 (b : Int) (2 ^ n) = ((b ||| 2 ^ n : Nat) : Int) := by
        have := or_nat b (2 ^ n) (by omega) (by omega)
        simpa using this
      have hn7 : (n : Int) ≤ 6 := by omega
      have HTA := Lib.hid (And.intro hta hbk)
      have hnR : (n : Int) < f.rows := by have := HR.out; omega
      have hb127I : (b : Int) ≤ 127 := by omega
      have HC := Lib.hid (fun W => rIn_any (n : Int) 0 (f.rows - 1) W)
      rw [show inB (n : Int) 0 (f.rows - 1) = true from by simp [inB]; omega] at HC
      clear hB hBB hob hpo hta hbk
      cases k with
      | zero =>
        rw [hn] at d1
        simp only [Nat.add_zero] at d1
        have HN := Lib.hid hn
        clear hn
        go_upto_region 5 with (fail)
        refine wp_region_rg 25 [] none [(7, Spec.val (.bool true))] (by as_aux_lemma => kernel_rfl) (by as_aux_lemma => kernel_rfl) ?_
        simp only [List.take_succ_cons, List.take_zero, List.drop_succ_cons, List.drop_zero]
        repeat (first | (refine tree_det (by rfl) _ (by rfl) (fun W hW => by go_simp; (try simp (disch := omega) only [IntWalk.i64_in]); try rfl) ?_; simp only [Act.put, List.setIfInBounds_toArray, List.set_cons_succ, List.set_cons_zero]) | (refine tree_skip (by rfl) (by rfl) ?_; simp only [Act.put, List.setIfInBounds_toArray, List.set_cons_succ, List.set_cons_zero]))
        refine tree_val _ (by rfl) (by rfl) 25 _ (fun W hW => by go_simp; try rfl) (fun W hE hF => by exact HC.out W) ?_
        simp only [Act.put, List.setIfInBounds_toArray, List.set_cons_succ, List.set_cons_zero]
        repeat (first | (refine tree_det (by rfl) _ (by rfl) (fun W hW => by go_simp; (try simp (disch := omega) only [IntWalk.i64_in]); try rfl) ?_; simp only [Act.put, List.setIfInBounds_toArray, List.set_cons_succ, List.set_cons_zero]) | (refine tree_skip (by rfl) (by rfl) ?_; simp only [Act.put, List.setIfInBounds_toArray, List.set_cons_succ, List.set_cons_zero]))
        intro W hE hF
        obtain ⟨hc, hf⟩ := bcell hE.below
        have hzE := hE.size
        (try simp only [World.size_alloc] at hzE)
        have HE := Lib.hid hE
        clear hE hF
        go_wp2_with fail
        go_roundw
        case rel => exact ⟨1, by omega, by go_num, by rw [HTA.out.1], bgo HB.out.1 HE.out.below⟩
        case measure => simp [intOf]; omega
      | succ m =>
        have hm : m < c.length := by omega
        obtain ⟨bb', off', he, _, d2⟩ := IntsAt.cell (HL.out.below HB.out.2 (Nat.le_refl _)) hm
        cases he
        have hst := inc_step HI.out hlt
        rw [hn] at hst d1
        generalize c[m] = y at *
        have hd3 : decide ((n : Int) ≤ y) = false := by simp; omega
        clear hst
        have HN := Lib.hid hn
        have hmI : (m : Int) < c.length := by omega
        have hsub : ((m + 1 : Nat) : Int) - 1 = (m : Int) := by omega
        clear hn
        go_upto_region 5 with (fail)
        refine wp_region_rg 25 [] none [(7, Spec.val (.bool true))] (by as_aux_lemma => kernel_rfl) (by as_aux_lemma => kernel_rfl) ?_
        simp only [List.take_succ_cons, List.take_zero, List.drop_succ_cons, List.drop_zero]
        repeat (first | (refine tree_det (by rfl) _ (by rfl) (fun W hW => by go_simp; (try simp (disch := omega) only [IntWalk.i64_in]); try rfl) ?_; simp only [Act.put, List.setIfInBounds_toArray, List.set_cons_succ, List.set_cons_zero]) | (refine tree_skip (by rfl) (by rfl) ?_; simp only [Act.put, List.setIfInBounds_toArray, List.set_cons_succ, List.set_cons_zero]))
        refine tree_val _ (by rfl) (by rfl) 25 _ (fun W hW => by go_simp; try rfl) (fun W hE hF => by exact HC.out W) ?_
        simp only [Act.put, List.setIfInBounds_toArray, List.set_cons_succ, List.set_cons_zero]
        repeat (first | (refine tree_det (by rfl) _ (by rfl) (fun W hW => by go_simp; (try simp (disch := omega) only [IntWalk.i64_in]); try rfl) ?_; simp only [Act.put, List.setIfInBounds_toArray, List.set_cons_succ, List.set_cons_zero]) | (refine tree_skip (by rfl) (by rfl) ?_; simp only [Act.put, List.setIfInBounds_toArray, List.set_cons_succ, List.set_cons_zero]))
        intro W hE hF
        obtain ⟨hc, hf⟩ := bcell hE.below
        have hzE := hE.size
        (try simp only [World.size_alloc] at hzE)
        have HE := Lib.hid hE
        clear hE hF
        go_wp2_with fail
        go_roundw
        case rel => exact ⟨m + 2, by omega, by go_num, by rw [HTA.out.1], bgo HB.out.1 HE.out.below⟩
        case measure => simp [intOf]; omega
    · have hkl : k = c.length := by omega
      have hnl : ¬ (k : Int) < c.length := by omega
      have hall : ofBits (c.take k) = q := by rw [hkl, List.take_length]; exact HQ.out
      rw [hall]
      clear hB hBB
      go_wp2_with fail
      go_returns
      exact ⟨by simp, HB.out.2⟩

end Go.Proofs.YtdjgikcnmokjkaaGreat

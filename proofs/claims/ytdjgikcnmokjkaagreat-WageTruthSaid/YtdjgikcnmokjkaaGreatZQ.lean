/-
  Whether a truth is one of a field, or of a ledger, for any lists (the reference's IsAllowed, IsTruth; the law's Truth).
-/
import Derived.WalkKit
import Derived.WalkLawsBesides
import Derived.WalkSpells
import Derived.Outline
import Derived.Handy
import Derived.KernelRfl
import Derived.Lib.Hide
import Derived.BigRegion
import Derived.Deep.Cut
import Derived.Test.YtdjgikcnmokjkaaGreatKE
import Derived.Test.YtdjgikcnmokjkaaGreatZN
import Derived.Test.YtdjgikcnmokjkaaGreatVR
namespace Go.Proofs.YtdjgikcnmokjkaaGreat
open Go.RowKit Go.RG Go.SL Go.Shelf Cou Go.TB
set_option maxHeartbeats 400000
set_option maxRecDepth 10000

theorem gpost {P : Program} {f : Func} {R : Ending → World → Prop} {e : Exit} {a : Act} {W : World} (h : ∀ X, X = W → bodyPost P f R e a X) : bodyPost P f R e a W := h W rfl
theorem gcalls {P : Program} {f : FuncId} {a : Array Value} {W : World} {Q : Ending → World → Prop} (h : ∀ X, X = W → Calls P f a X Q) : Calls P f a W Q := h W rfl
/-- A list that says nothing of each row, or something else, is not allowed. -/
theorem rIsAllowed_no (f : FieldD) (hS : SoundF f) (tv lv : Value) (l : List Int) (hl : l ∉ allF f) (h9 : l.length ≤ 9) (w : World) (h : IntsAt w lv l) :
    Calls Tryz.prog 119 #[fv f tv, lv] w (PV (.bool false) w) := by
  have hr0 := hS.rows0
  have hr1 := hS.rows1
  have hw0 := hS.weed0
  have hw1 := hS.weed1
  obtain ⟨o, c, rfl⟩ := h.open
  have HN := Lib.hid (show (∀ j, j < l.length → -1 ≤ l.getD j 0 ∧ l.getD j 0 ≤ f.weeders - 1) → ((l.length : Int) == f.rows) = false from fun hj => by
    rw [beq_eq_false_iff_ne]
    intro e
    exact hl (mem_allF.2 ⟨by omega, fun i hi => hj i (by omega)⟩))
  have HL := Lib.hid h
  clear h hl
  go_enter Tryz.func119, Tryz.ntmps119
  go_wp2_with fail
  refine gworld fun W0 hW0 => ?_
  have hB0 : Below w.heap.size w W0 := by rw [hW0]; exact (by repeat (first | exact Below.refl _ _ | assumption | refine bgo ?_ (by assumption) | refine bgoAlloc ?_ _ | refine bgoDrew ?_ | refine bgoSet ?_ (by simp; omega) _))
  have hK0 : W0.heap[w.heap.size]? = some (.cells (rfcells f tv) 26 (0, 0)) := by rw [hW0]; exact heap_new0 _ _
  have H0 := Lib.hid (And.intro hB0 hK0)
  clear hW0 hB0 hK0
  go_loopw [5] (fun u wr => ∃ k : Nat, k ≤ l.length ∧ u = .int .i64 k ∧ (∀ j, j < k → -1 ≤ l.getD j 0 ∧ l.getD j 0 ≤ f.weeders - 1) ∧ Below W0.heap.size W0 wr) (fun u _ => l.length - (intOf u).toNat)
  case atStart => exact ⟨0, Nat.zero_le _, rfl, fun j hj => by omega, Below.refl _ _⟩
  case round =>
    obtain ⟨k, hk, rfl, hok, hB⟩ := hrel
    have hBB := bgo H0.out.1 hB
    obtain ⟨c1, f1, l1⟩ := cells_of_block ((hB.block _ (cells_of_block H0.out.2).2.2).trans H0.out.2)
    have HB := Lib.hid (And.intro hB hBB)
    by_cases hlt : k < l.length
    · obtain ⟨g, off, rfl, hg, d1⟩ := IntsAt.cell (HL.out.below hBB (Nat.le_refl _)) hlt
      have hgd : l.getD k 0 = l[k] := by simp [List.getD, hlt]
      have HOK := Lib.hid (And.intro hok hgd)
      generalize l[k] = y at *
      obtain ⟨q, hq⟩ : ∃ q, inB y (-1) (f.weeders - 1) = q := ⟨_, rfl⟩
      have HC := Lib.hid (fun W => rIn_any y (-1) (f.weeders - 1) W)
      rw [hq] at HC
      have HQ := Lib.hid hq
      have hltI : (k : Int) < l.length := by omega
      clear hB hBB hok hgd hq
      go_upto_region 4 with (fail)
      refine wp_region_rg 9 [] none [(7, Spec.val (.bool q))] (by as_aux_lemma => kernel_rfl) (by as_aux_lemma => kernel_rfl) ?_
      simp only [List.take_succ_cons, List.take_zero, List.drop_succ_cons, List.drop_zero]
      repeat (first | (refine tree_det (by rfl) _ (by rfl) (fun W hW => by go_simp; (try simp (disch := omega) only [IntWalk.i64_in]); try rfl) ?_; simp only [Act.put, List.setIfInBounds_toArray, List.set_cons_succ, List.set_cons_zero]) | (refine tree_skip (by rfl) (by rfl) ?_; simp only [Act.put, List.setIfInBounds_toArray, List.set_cons_succ, List.set_cons_zero]))
      refine tree_val _ (by rfl) (by rfl) 25 _ (fun W hW => by go_simp; try rfl) (fun W hE hF => by exact HC.out W) ?_
      simp only [Act.put, List.setIfInBounds_toArray, List.set_cons_succ, List.set_cons_zero]
      repeat (first | (refine tree_det (by rfl) _ (by rfl) (fun W hW => by go_simp; (try simp (disch := omega) only [IntWalk.i64_in]); try rfl) ?_; simp only [Act.put, List.setIfInBounds_toArray, List.set_cons_succ, List.set_cons_zero]) | (refine tree_skip (by rfl) (by rfl) ?_; simp only [Act.put, List.setIfInBounds_toArray, List.set_cons_succ, List.set_cons_zero]))
      intro W hE hF
      obtain ⟨hc, hf⟩ := bcell hE.below
      have hzE := hE.size
      (try simp only [World.size_alloc] at hzE)
      have HE := Lib.hid hE
      clear hE hF
      cases q
      · go_wp2_with fail
        go_returns
        exact ⟨by simp, bgo HB.out.2 HE.out.below⟩
      · have HY := Lib.hid (show -1 ≤ y ∧ y ≤ f.weeders - 1 from by have := HQ.out; unfold inB at this; simp at this; omega)
        go_wp2_with fail
        go_roundw
        case rel =>
          refine ⟨k + 1, by omega, by go_num, fun j hj => ?_, bgo HB.out.1 HE.out.below⟩
          by_cases e : j = k
          · subst e; rw [HOK.out.2]; exact HY.out
          · exact HOK.out.1 j (by omega)
        case measure => simp [intOf]; omega
    · have hnl : ¬ (k : Int) < l.length := by omega
      have hne := HN.out (fun j hj => hok j (by omega))
      clear hB hBB hok
      go_upto_region 6 with (fail)
      refine wp_region_rg 18 [] none [] (by as_aux_lemma => kernel_rfl) (by as_aux_lemma => kernel_rfl) ?_
      simp only [List.take_succ_cons, List.take_zero, List.drop_succ_cons, List.drop_zero]
      repeat (first | (refine tree_det (by rfl) _ (by rfl) (fun W hW => by go_simp; (try simp (disch := omega) only [IntWalk.i64_in]); try rfl) ?_; simp only [Act.put, List.setIfInBounds_toArray, List.set_cons_succ, List.set_cons_zero]) | (refine tree_skip (by rfl) (by rfl) ?_; simp only [Act.put, List.setIfInBounds_toArray, List.set_cons_succ, List.set_cons_zero]))
      intro W hE hF
      obtain ⟨hc, hf⟩ := bcell hE.below
      have hzE := hE.size
      (try simp only [World.size_alloc] at hzE)
      have HE := Lib.hid hE
      clear hE hF
      go_wp2_with fail
      go_returns
      exact ⟨by simp, bgo HB.out.2 HE.out.below⟩

theorem proveTruth_no {f : FieldD} {l : List Int} (hl : l ∉ allF f) (h0 : faultF f = 0) : proveTruthB f l = false := by
  cases h : proveTruthB f l
  · rfl
  · obtain ⟨_, h2, h3, _⟩ := proveTruth_bd h
    have hS := soundF_of h0
    exact absurd (mem_allF.2 ⟨by omega, fun i hi => by
      have := h3 (l.getD i 0) (by rw [show l.getD i 0 = l[i]'(by omega) from by simp [List.getD, show i < l.length by omega]]; exact List.getElem_mem _)
      omega⟩) hl
theorem proveTruth_yes {f : FieldD} {l : List Int} (hl : l ∈ allF f) (h0 : faultF f = 0) : proveTruthB f l = rightF f [] l := by
  obtain ⟨hlen, hin⟩ := mem_allF.1 hl
  have hS := soundF_of h0
  have hr0 := hS.rows0
  unfold proveTruthB
  rw [h0, show decide ((l.length : Int) = f.rows) = true from decide_eq_true (by omega)]
  have hall : l.all (saysB f) = true := by
    rw [List.all_eq_true]
    intro x hx
    obtain ⟨i, hi, rfl⟩ := List.mem_iff_getElem.1 hx
    have := hin i (by omega)
    rw [show l.getD i 0 = l[i] from by simp [List.getD, hi]] at this
    unfold saysB inB
    simp
    omega
  rw [hall]
  simp

theorem rIsTruth_gen (f : FieldD) (h0 : faultF f = 0) (tv lv : Value) (l : List Int) (h9 : l.length ≤ 9) (w : World) (ht : TalliesAt w tv f.tallies) (h : IntsAt w lv l) :
    Calls Tryz.prog 72 #[fv f tv, lv] w (PV (.bool (proveTruthB f l)) w) := by
  have hS := soundF_of h0
  by_cases hl : l ∈ allF f
  · rw [proveTruth_yes hl h0]
    exact rIsTruth_any f hS tv lv l hl w ht h
  · rw [proveTruth_no hl h0]
    obtain ⟨ot, ct, rfl⟩ := ht.open
    have HA := Lib.hid (rIsAllowed_no f hS (.slice ot f.tallies.length ct) lv l hl h9 (w.alloc (.cells (rfcells f (.slice ot f.tallies.length ct)) 26)) (h.alloc _))
    clear h ht hl hS h0
    go_enter Tryz.func72, Tryz.ntmps72
    go_wp2_with fail
    refine HA.out.mono ?_
    rintro e w1 ⟨rfl, hb⟩
    have HB := Lib.hid hb
    clear hb
    go_wp2_with fail
    go_returns
    exact ⟨by simp, bgo (bgoAlloc (Below.refl _ _) _) HB.out⟩

/-- The law's Truth: both lists are copied. -/
theorem zTruth_any (rows ps : List Int) (rvv pv : Value) (w : World) (hr : IntsAt w rvv rows) (hp : IntsAt w pv ps) (h9 : rows.length ≤ 9) (p9 : ps.length ≤ 9) :
    Calls Tryz.prog 70 #[.agg #[rvv, pv]] w (fun e w' => ∃ u v, e = .returned (.agg #[u, v]) ∧ IntsAt w' u rows ∧ IntsAt w' v ps ∧ Below w.heap.size w w') := by
  obtain ⟨ro, rc, rfl⟩ := hr.open
  obtain ⟨po, pc, rfl⟩ := hp.open
  have HA := Lib.hid (And.intro hr hp)
  clear hr hp
  go_enter Tryz.func70, Tryz.ntmps70
  go_upto_region 1 with (fail)
  refine gworld fun V0 hV0 => ?_
  have hB0 : Below w.heap.size w V0 := by rw [hV0]; exact (by repeat (first | exact Below.refl _ _ | assumption | refine bgo ?_ (by assumption) | refine bgoAlloc ?_ _ | refine bgoDrew ?_ | refine bgoSet ?_ (by simp; omega) _))
  have hk0 : V0.heap[w.heap.size]? = some (.cells #[.slice ro rows.length rc, .slice po ps.length pc] 70 (0, 0)) := by rw [hV0]; exact (Below.heap_alloc _ _ _ (by simp)).trans (heap_new0 _ _)
  have hk1 : V0.heap[w.heap.size + 1]? = some (.cells #[.slice none 0 0, .slice none 0 0] 111 (0, 0)) := by rw [hV0]; exact heap_new1 _ _ _
  have H0 := Lib.hid (And.intro hB0 hk1)
  obtain ⟨c0, f0, l0⟩ := cells_of_block hk0
  clear hV0 hB0 hk0 hk1
  refine wp_region_rg 7 [] none [(2, ⟨fun _ v => ∃ o c, v = .slice o rows.length c, fun _ v Wx => Wx.ownsRow V0.heap.size 3 1 v rows.length (intCells rows)⟩), (5, ⟨fun _ v => ∃ o c, v = .slice o ps.length c, fun _ v Wx => Wx.ownsRow V0.heap.size 3 1 v ps.length (intCells ps)⟩)] (by as_aux_lemma => kernel_rfl) (by as_aux_lemma => kernel_rfl) ?_
  simp only [List.take_succ_cons, List.take_zero, List.drop_succ_cons, List.drop_zero]
  repeat (first | (refine tree_det (by rfl) _ (by rfl) (fun W hW => by go_simp; (try simp (disch := omega) only [IntWalk.i64_in]); try rfl) ?_; simp only [Act.put, List.setIfInBounds_toArray, List.set_cons_succ, List.set_cons_zero]) | (refine tree_skip (by rfl) (by rfl) ?_; simp only [Act.put, List.setIfInBounds_toArray, List.set_cons_succ, List.set_cons_zero]))
  refine tree_some _ (by rfl) (by rfl) (by exact ⟨.slice none rows.length 0, none, 0, rfl⟩) (fun Wx hE hF => ?_) (fun v Wx Wy ho hE => owns_ext (Ms := []) ho hE (by simp)) (fun v hv => ?_)
  · have hE' : Ext [] V0 Wx := hE
    refine does_enter 47 #[.slice ro rows.length rc] (by go_simp; try rfl) ?_
    refine (list_any rows (.slice ro rows.length rc) Wx (HA.out.1.below (bgo H0.out.1 hE'.below) (Nat.le_refl _)) (by omega)).mono ?_
    rintro e W' ⟨u, rfl, hu, hb⟩
    exact ⟨_, rfl, owns_slice hu, owns_base hu hE'.size, Ext.of_below hb⟩
  obtain ⟨o5, c5, rfl⟩ := hv
  simp only [Act.put, List.setIfInBounds_toArray, List.set_cons_succ, List.set_cons_zero]
  repeat (first | (refine tree_det (by rfl) _ (by rfl) (fun W hW => by go_simp; (try simp (disch := omega) only [IntWalk.i64_in]); try rfl) ?_; simp only [Act.put, List.setIfInBounds_toArray, List.set_cons_succ, List.set_cons_zero]) | (refine tree_skip (by rfl) (by rfl) ?_; simp only [Act.put, List.setIfInBounds_toArray, List.set_cons_succ, List.set_cons_zero]))
  refine tree_some _ (by rfl) (by rfl) (by exact ⟨.slice none ps.length 0, none, 0, rfl⟩) (fun Wx hE hF => ?_) (fun v Wx Wy ho hE => owns_ext (Ms := []) ho hE (by simp)) (fun v hv => ?_)
  · have hE' : Ext [] V0 Wx := hE
    refine does_enter 47 #[.slice po ps.length pc] (by go_simp; try rfl) ?_
    refine (list_any ps (.slice po ps.length pc) Wx (HA.out.2.below (bgo H0.out.1 hE'.below) (Nat.le_refl _)) (by omega)).mono ?_
    rintro e W' ⟨u, rfl, hu, hb⟩
    exact ⟨_, rfl, owns_slice hu, owns_base hu hE'.size, Ext.of_below hb⟩
  obtain ⟨o6, c6, rfl⟩ := hv
  simp only [Act.put, List.setIfInBounds_toArray, List.set_cons_succ, List.set_cons_zero]
  repeat (first | (refine tree_det (by rfl) _ (by rfl) (fun W hW => by go_simp; (try simp (disch := omega) only [IntWalk.i64_in]); try rfl) ?_; simp only [Act.put, List.setIfInBounds_toArray, List.set_cons_succ, List.set_cons_zero]) | (refine tree_skip (by rfl) (by rfl) ?_; simp only [Act.put, List.setIfInBounds_toArray, List.set_cons_succ, List.set_cons_zero]))
  intro X hE hF
  have hEX : Ext [] V0 X := hE
  have h5 : X.ownsRow V0.heap.size 3 1 (.slice o5 rows.length c5) rows.length (intCells rows) := hF _ (List.Mem.tail _ (List.Mem.head _))
  have h6 : X.ownsRow V0.heap.size 3 1 (.slice o6 ps.length c6) ps.length (intCells ps) := hF _ (List.Mem.head _)
  have hxb := (hEX.below.block _ (cells_of_block H0.out.2).2.2).trans H0.out.2
  have HXX := Lib.hid (And.intro h5 (And.intro h6 (And.intro hxb (bgo H0.out.1 hEX.below))))
  obtain ⟨c1, f1, l1⟩ := cells_of_block hxb
  have hlv := (cells_of_block H0.out.2).2.2
  clear hE hF hEX h5 h6 hxb c0 f0
  go_wp2_with fail
  refine gpost fun Z hZ => ?_
  have hz1 : Z.heap[w.heap.size + 1]? = some (.cells #[.slice o5 rows.length c5, .slice o6 ps.length c6] 111 (0, 0)) := by rw [hZ]; exact set_two HXX.out.2.2.1 _ _
  have hkeep : ∀ g, g ≠ w.heap.size + 1 → Z.heap[g]? = X.heap[g]? := fun g hg => by rw [hZ]; exact two_other hg _ _
  have hB : Below w.heap.size w Z := by rw [hZ]; exact bgoSet (bgoSet HXX.out.2.2.2 (Nat.le_succ _) _) (Nat.le_succ _) _
  have g5 := owns_keep HXX.out.1 fun g hg => hkeep g (by have := (owns_ge HXX.out.1 g hg).1; omega)
  have g6 := owns_keep HXX.out.2.1 fun g hg => hkeep g (by have := (owns_ge HXX.out.2.1 g hg).1; omega)
  have HZ := Lib.hid (And.intro (SlAt.of_owns g5) (And.intro (SlAt.of_owns g6) hB))
  obtain ⟨hc, f2, l2⟩ := cells_of_block hz1
  clear hZ hz1 hkeep hB g5 g6 c1 f1
  (try simp only [Exit.inBlock, Exit.then])
  refine bodyPost_ret (v := .agg #[.slice o5 rows.length c5, .slice o6 ps.length c6]) (by simp [results, Tryz.results70, go_sem, hc]; try omega) rfl ?_
  exact ⟨.slice o5 rows.length c5, .slice o6 ps.length c6, by simp, HZ.out.1, HZ.out.2.1, HZ.out.2.2⟩

set_option maxHeartbeats 8000000 in
/-- Whether a truth is one of a valid ledger. -/
theorem zIsTruth_any {l : LedgerD} (h0 : faultW l = 0) (tv nv rvv pv : Value) (rows ps : List Int) (h9 : rows.length ≤ 9) (w : World) (ht : TalliesAt w tv l.field.tallies) (hn : TriplesAt w nv l.notes) (hr : IntsAt w rvv rows) (hp : IntsAt w pv ps) :
    Calls Tryz.prog 71 #[lv l tv nv, .agg #[rvv, pv]] w (PV (.bool (proveLB l rows ps)) w) := by
  obtain ⟨ro, rc, rfl⟩ := hr.open
  obtain ⟨po, pc, rfl⟩ := hp.open
  obtain ⟨no, nc, rfl⟩ := hn.open
  have hS := (faultW_sound h0).1
  have hF := soundF_of hS.field
  have HT := Lib.hid (fun (W : World) (hb : Below w.heap.size w W) => rIsTruth_gen l.field hS.field tv (.slice ro rows.length rc) rows h9 W (ht.below hb (Nat.le_refl _)) (hr.below hb (Nat.le_refl _)))
  have HA := Lib.hid (And.intro ht (And.intro hn (And.intro hr hp)))
  obtain ⟨n, hwn⟩ : ∃ n : Nat, l.field.weeders = n := ⟨l.field.weeders.toNat, by have := hF.weed0; omega⟩
  have hwt : l.field.weeders.toNat = n := by omega
  have hn3 : n ≤ 3 := by have := hF.weed1; omega
  have hmn := hS.many
  obtain ⟨pt, hpt⟩ : ∃ pt, proveTruthB l.field rows = pt := ⟨_, rfl⟩
  rw [hpt] at HT
  have HV := Lib.hid (show proveLB l rows ps = (pt && (decide (ps.length = n) && (safeTo (duesV l.rate rows) ps n && (inB (sumI ps) l.box.1 l.box.2 && l.notes.all (noteOk ps))))) from by unfold proveLB; rw [h0, hpt, hwt]; simp)
  have HPT := Lib.hid hpt
  have HS := Lib.hid (And.intro hS hF)
  have HN := Lib.hid (And.intro hwn hwt)
  clear ht hn hr hp hS hF hwt hpt
  clear hwn
  go_enter Tryz.func71, Tryz.ntmps71
  go_wp2_with fail
  refine gcalls fun V0 hV0 => ?_
  have hB0 : Below w.heap.size w V0 := by rw [hV0]; exact (by repeat (first | exact Below.refl _ _ | assumption | refine bgo ?_ (by assumption) | refine bgoAlloc ?_ _ | refine bgoDrew ?_ | refine bgoSet ?_ (by simp; omega) _))
  have hk0 : V0.heap[w.heap.size]? = some (.cells (lcells l tv (.slice no l.notes.length nc)) 30 (0, 0)) := by rw [hV0]; exact (Below.heap_alloc _ _ _ (by simp)).trans (heap_new0 _ _)
  have hk1 : V0.heap[w.heap.size + 1]? = some (.cells #[.slice ro rows.length rc, .slice po ps.length pc] 70 (0, 0)) := by rw [hV0]; exact heap_new1 _ _ _
  have HK0 := Lib.hid ((Keeps.one hB0 hk0).more hk1 (last_block hk1))
  obtain ⟨c0, f0, l0⟩ := cells_of_block hk0
  obtain ⟨c1, f1, l1⟩ := cells_of_block hk1
  clear hV0 hB0 hk0 hk1
  refine (HT.out V0 HK0.out.below).mono ?_
  rintro e W1 ⟨rfl, hb⟩
  clear HT
  have HK1 := Lib.hid (HK0.out.next hb)
  clear hb
  (try clear c0 f0)
  (try clear c1 f1)
  obtain ⟨c0, f0, l0⟩ := cells_of_block HK1.out.blk.2
  obtain ⟨c1, f1, l1⟩ := cells_of_block HK1.out.blk.1
  cases pt
  · have HV' := Lib.hid (show proveLB l rows ps = false from by rw [HV.out]; simp)
    go_wp2_with fail
    go_returns
    exact ⟨by rw [HV'.out]; simp, HK1.out.below⟩
  by_cases hpn : ps.length = n
  case neg =>
    have hne : ((ps.length : Int) != l.field.weeders) = true := by rw [HN.out.1]; simp; omega
    have HV' := Lib.hid (show proveLB l rows ps = false from by rw [HV.out]; simp [hpn])
    clear hpn
    go_wp2_with fail
    go_returns
    exact ⟨by rw [HV'.out]; simp, HK1.out.below⟩
  have hne : ((ps.length : Int) != l.field.weeders) = false := by rw [HN.out.1]; simp; omega
  obtain ⟨_, hlen, _, _⟩ := proveTruth_bd HPT.out
  have HV' := Lib.hid (show proveLB l rows ps = (safeTo (duesV l.rate rows) ps n && (inB (sumI ps) l.box.1 l.box.2 && l.notes.all (noteOk ps))) from by rw [HV.out, hpn]; simp)
  have hrt := HS.out.1.rate
  have HD := Lib.hid (zDues_any l tv (.slice no l.notes.length nc) (.slice ro rows.length rc) rows W1 (HA.out.2.2.1.below HK1.out.below (Nat.le_refl _)) (by omega) (by have := HN.out.1; omega) (by have := HN.out.1; omega) (by omega) hrt.2)
  have hdz := duesZ_eq HS.out.2 (t := rows) (by have := HS.out.2.rows0; omega)
  have hdl := dueV_length HS.out.1 rows
  have hdb := dueV_bd HS.out.1 (t := rows) (by have := HS.out.2.rows1; omega)
  have hdg := fun (i : Nat) (hi : i < n) => due_get (l := l) rows (w := i) (by have := HN.out.2; omega)
  rw [hdz] at HD
  rw [HN.out.2] at HD hdl
  generalize dueV l rows = D at *
  have HDD := Lib.hid (And.intro hdl (And.intro hdb hdg))
  have HPN := Lib.hid hpn
  clear hlen hrt hdz hdl hdb hdg hpn
  go_wp2_with fail
  refine HD.out.mono ?_
  rintro e W2 ⟨u, rfl, hu, hb⟩
  obtain ⟨uo, uc, rfl⟩ := owns_slice hu
  have HU := Lib.hid (SlAt.of_owns hu)
  clear hu HD hne
  have HK2 := Lib.hid (HK1.out.next hb)
  clear hb
  (try clear c0 f0)
  (try clear c1 f1)
  obtain ⟨c0, f0, l0⟩ := cells_of_block HK2.out.blk.2
  obtain ⟨c1, f1, l1⟩ := cells_of_block HK2.out.blk.1
  have HK2 := Lib.hid (HK2.out.add (T := fun W => SlAt 1 W (.slice uo n uc) n (intCells D)) HU.out (last_at HU.out))
  go_wp2_with fail
  clear c0 f0 c1 f1
  go_loopw [6] (fun u wr => ∃ k : Nat, k ≤ n ∧ u = .int .i64 k ∧ safeTo (duesV l.rate rows) ps k = true ∧ Below W2.heap.size W2 wr) (fun u _ => n - (intOf u).toNat)
  case atStart => exact ⟨0, Nat.zero_le _, rfl, rfl, Below.refl _ _⟩
  case round =>
    obtain ⟨k, hk, rfl, hok, hB⟩ := hrel
    have HKR := Lib.hid (HK2.out.next hB)
    obtain ⟨c1, f1, l1'⟩ := cells_of_block HKR.out.blk.1
    by_cases hlt : k < n
    · have hkp : k < ps.length := by rw [HPN.out]; exact hlt
      have hkd : k < D.length := by rw [HDD.out.1]; exact hlt
      obtain ⟨b1, off1, hv1, hl1, d1⟩ := IntsAt.cell (HA.out.2.2.2.below HKR.out.below (Nat.le_refl _)) hkp
      obtain ⟨b2, off2, hv2, hl2, d2⟩ := IntsAt.cell (l := D) HKR.out.is.1 hkd
      have e1 : ps.getD k 0 = ps[k] := by simp [List.getD, hkp]
      have e2 : (duesV l.rate rows).getD k 0 = D[k] := by rw [← HDD.out.2.2 k hlt]; simp [List.getD, hkd]
      have hsu := safeTo_succ (duesV l.rate rows) ps k
      rw [hok, Bool.true_and, e1, e2] at hsu
      have hbad := fun h => safeTo_bad (least := duesV l.rate rows) (ps := ps) (k := k) (n := n) hlt h
      rw [e1, e2] at hbad
      generalize D[k] = y at *
      generalize ps[k] = x at *
      obtain ⟨z, hz⟩ : ∃ z, inB x 0 y = z := ⟨_, rfl⟩
      have HI := Lib.hid (fun W : World => rIn_any x 0 y W)
      rw [hz] at HI hsu hbad
      have HZ := Lib.hid (And.intro hsu hbad)
      have HBB := Lib.hid hB
      have hltI : (k : Int) < ps.length := by omega
      have hltn : (k : Int) < n := by omega
      cases hv1
      cases hv2
      clear hsu hbad hok hB e1 e2 hz
      go_wp2_with fail
      refine wp_region_rg 10 [] none [(9, Spec.val (.bool z))] (by as_aux_lemma => kernel_rfl) (by as_aux_lemma => kernel_rfl) ?_
      simp only [List.take_succ_cons, List.take_zero, List.drop_succ_cons, List.drop_zero]
      repeat (first | (refine tree_det (by rfl) _ (by rfl) (fun W hW => by go_simp; (try simp (disch := omega) only [IntWalk.i64_in]); try rfl) ?_; simp only [Act.put, List.setIfInBounds_toArray, List.set_cons_succ, List.set_cons_zero]) | (refine tree_skip (by rfl) (by rfl) ?_; simp only [Act.put, List.setIfInBounds_toArray, List.set_cons_succ, List.set_cons_zero]))
      refine tree_val _ (by rfl) (by rfl) 25 _ (fun W hW => by go_simp; try rfl) (fun W hE hF => by exact HI.out W) ?_
      simp only [Act.put, List.setIfInBounds_toArray, List.set_cons_succ, List.set_cons_zero]
      repeat (first | (refine tree_det (by rfl) _ (by rfl) (fun W hW => by go_simp; (try simp (disch := omega) only [IntWalk.i64_in]); try rfl) ?_; simp only [Act.put, List.setIfInBounds_toArray, List.set_cons_succ, List.set_cons_zero]) | (refine tree_skip (by rfl) (by rfl) ?_; simp only [Act.put, List.setIfInBounds_toArray, List.set_cons_succ, List.set_cons_zero]))
      intro X hE hF
      have HXX := Lib.hid (Ext.below (show Ext [] wr X from hE))
      clear hE hF c1 f1 d1 d2
      cases z
      · have HR := Lib.hid (show proveLB l rows ps = false from by rw [HV'.out, HZ.out.2 rfl]; rfl)
        go_wp2_with fail
        go_returns
        exact ⟨by rw [HR.out]; simp, bgo HKR.out.below HXX.out⟩
      · go_wp2_with fail
        go_roundw
        case rel => exact ⟨k + 1, by omega, by go_num, HZ.out.1, bgo HBB.out HXX.out⟩
        case measure => simp [intOf]; omega
    · have hkn : k = n := by omega
      rw [hkn] at hok
      have hnl : ¬ (k : Int) < ps.length := by rw [HPN.out]; omega
      have hall : ∀ z ∈ ps, 0 ≤ z ∧ z ≤ 350 := fun z hz => by
        obtain ⟨i, hi, hie⟩ := List.getElem_of_mem hz
        unfold safeTo at hok
        have h := List.all_eq_true.1 hok i (List.mem_range.2 (by have := HPN.out; omega))
        have hin : i < n := by have := HPN.out; omega
        have hid : i < D.length := by have := HDD.out.1; omega
        rw [show ps.getD i 0 = z from by rw [← hie]; simp [List.getD, hi], ← HDD.out.2.2 i hin, show D.getD i 0 = D[i] from by simp [List.getD, hid]] at h
        have := HDD.out.2.1 _ (List.getElem_mem hid)
        unfold inB at h
        simp only [Bool.and_eq_true, decide_eq_true_eq] at h
        omega
      have HV2 := Lib.hid (show proveLB l rows ps = (inB (sumI ps) l.box.1 l.box.2 && l.notes.all (noteOk ps)) from by rw [HV'.out, hok]; rfl)
      have HALL := Lib.hid hall
      generalize wr = V at *
      clear hok hB hall
      go_wp2_with fail
      clear c1 f1 hnl
      go_loopw [7] (fun u wr => ∃ j : Nat, j ≤ l.notes.length ∧ u = .int .i64 j ∧ (l.notes.take j).all (noteOk ps) = true ∧ Below V.heap.size V wr) (fun u _ => l.notes.length - (intOf u).toNat)
      case atStart => exact ⟨0, Nat.zero_le _, rfl, rfl, Below.refl _ _⟩
      case round =>
        obtain ⟨j, hj, rfl, hok, hB⟩ := hrel
        have HKS := Lib.hid (HKR.out.next hB)
        obtain ⟨c0, f0, l0'⟩ := cells_of_block HKS.out.blk.2
        obtain ⟨c1, f1, l1''⟩ := cells_of_block HKS.out.blk.1
        by_cases hlj : j < l.notes.length
        · obtain ⟨g3, off3, hv3, hl3, d0, d1, d2⟩ := TriplesAt.cell (HA.out.2.1.below HKS.out.below (Nat.le_refl _)) hlj
          have hnv := HS.out.1.notes _ (List.getElem_mem hlj)
          have hmem := List.getElem_mem hlj
          have htk : (l.notes.take (j + 1)).all (noteOk ps) = noteOk ps l.notes[j] := by
            rw [List.take_succ_eq_append_getElem hlj, List.all_append, hok]
            simp
          generalize l.notes[j] = x at *
          obtain ⟨x0, x1, x2⟩ := x
          simp only at hnv d0 d1 d2
          obtain ⟨i, hi⟩ : ∃ i : Nat, x0 = (i : Int) := ⟨x0.toNat, by omega⟩
          subst hi
          have hip : i < ps.length := by have := HPN.out; have := HN.out.1; omega
          obtain ⟨b1, off1, hv1, hl1, p1⟩ := IntsAt.cell (HA.out.2.2.2.below HKS.out.below (Nat.le_refl _)) hip
          have hno : noteOk ps ((i : Int), x1, x2) = inB ps[i] x1 x2 := by
            unfold noteOk
            simp only [Int.toNat_natCast]
            rw [show ps.getD i 0 = ps[i] from by simp [List.getD, hip]]
          rw [hno] at htk
          generalize ps[i] = y at *
          obtain ⟨z, hz⟩ : ∃ z, inB y x1 x2 = z := ⟨_, rfl⟩
          have HI := Lib.hid (fun W : World => rIn_any y x1 x2 W)
          rw [hz] at HI htk hno
          have HZ := Lib.hid (And.intro htk (And.intro hno hmem))
          have HBB := Lib.hid hB
          have hljI : (j : Int) < l.notes.length := by omega
          have hiI : (i : Int) < ps.length := by omega
          cases hv1
          cases hv3
          clear hnv hmem htk hno hok hB hz
          go_upto_region 13 with (fail)
          refine gworld fun W4 hW4 => ?_
          have hb4 : Below wr.heap.size wr W4 := by rw [hW4]; exact (by repeat (first | exact Below.refl _ _ | assumption | refine bgo ?_ (by assumption) | refine bgoAlloc ?_ _ | refine bgoDrew ?_ | refine bgoSet ?_ (by simp; omega) _))
          have hx4 : W4.heap[wr.heap.size]? = some (.cells #[iv i, iv x1, iv x2] 77 (0, 0)) := by rw [hW4]; exact heap_new0 _ _
          obtain ⟨nb, hnb⟩ : ∃ nb, wr.heap.size = nb := ⟨_, rfl⟩
          rw [hnb] at hx4 ⊢
          obtain ⟨c4, f4, l4⟩ := cells_of_block hx4
          have hq1 := (hb4.block _ l1'').trans HKS.out.blk.1
          have p4 := ((Ext.of_below (Ms := []) hb4).cell _ _ hl1 (by simp)).trans p1
          have HB4 := Lib.hid hb4
          have hl9 := Nat.lt_of_lt_of_le hl1 hb4.size
          clear hb4 hx4 hW4 hl1 c0 f0 c1 f1 p1 d0 d1 d2
          obtain ⟨c1, f1, l1x⟩ := cells_of_block hq1
          clear hq1
          refine wp_region_rg 13 [] none [(12, Spec.val (.bool z))] (by as_aux_lemma => kernel_rfl) (by as_aux_lemma => kernel_rfl) ?_
          simp only [List.take_succ_cons, List.take_zero, List.drop_succ_cons, List.drop_zero]
          repeat (first | (refine tree_det (by rfl) _ (by rfl) (fun W hW => by go_simp; (try simp (disch := omega) only [IntWalk.i64_in]); try rfl) ?_; simp only [Act.put, List.setIfInBounds_toArray, List.set_cons_succ, List.set_cons_zero]) | (refine tree_skip (by rfl) (by rfl) ?_; simp only [Act.put, List.setIfInBounds_toArray, List.set_cons_succ, List.set_cons_zero]))
          refine tree_val _ (by rfl) (by rfl) 25 _ (fun W hW => by go_simp; try rfl) (fun W hE hF => by exact HI.out W) ?_
          simp only [Act.put, List.setIfInBounds_toArray, List.set_cons_succ, List.set_cons_zero]
          repeat (first | (refine tree_det (by rfl) _ (by rfl) (fun W hW => by go_simp; (try simp (disch := omega) only [IntWalk.i64_in]); try rfl) ?_; simp only [Act.put, List.setIfInBounds_toArray, List.set_cons_succ, List.set_cons_zero]) | (refine tree_skip (by rfl) (by rfl) ?_; simp only [Act.put, List.setIfInBounds_toArray, List.set_cons_succ, List.set_cons_zero]))
          intro X hE hF
          have HXX := Lib.hid (bgo HB4.out (Ext.below (show Ext [] W4 X from hE)))
          clear hE hF c1 f1 c4 f4 p4
          cases z
          · have HR := Lib.hid (show proveLB l rows ps = false from by
              have : l.notes.all (noteOk ps) = false := by rw [List.all_eq_false]; exact ⟨_, HZ.out.2.2, by rw [HZ.out.2.1]; simp⟩
              rw [HV2.out, this]; simp)
            go_wp2_with fail
            go_returns
            exact ⟨by rw [HR.out]; simp, bgo HKS.out.below HXX.out⟩
          · go_wp2_with fail
            go_roundw
            case rel => exact ⟨j + 1, by omega, by go_num, HZ.out.1, bgo HBB.out HXX.out⟩
            case measure => simp [intOf]; omega
        · have hjn : ¬ (j : Int) < l.notes.length := by omega
          have htk : l.notes.take j = l.notes := List.take_of_length_le (by omega)
          rw [htk] at hok
          obtain ⟨sm, hsm⟩ : ∃ sm, sumI ps = sm := ⟨_, rfl⟩
          obtain ⟨bx, hbx⟩ : ∃ bx, inB sm l.box.1 l.box.2 = bx := ⟨_, rfl⟩
          have HSUM := Lib.hid (fun (W : World) (hb : Below wr.heap.size wr W) => zSum_any ps (.slice po ps.length pc) W (HA.out.2.2.2.below (bgo HKS.out.below hb) (Nat.le_refl _)) (fun z hz => by have := HALL.out z hz; omega) (by have := HPN.out; omega))
          have HI := Lib.hid (fun W : World => rIn_any sm l.box.1 l.box.2 W)
          have HR := Lib.hid (show proveLB l rows ps = bx from by rw [HV2.out, hok, hsm, hbx]; simp)
          rw [hsm] at HSUM
          rw [hbx] at HI
          clear hok hB htk hsm hbx
          go_wp2_with fail
          refine wp_region_rg 10 [] none [(2, Spec.val (iv sm)), (9, Spec.val (.bool bx))] (by as_aux_lemma => kernel_rfl) (by as_aux_lemma => kernel_rfl) ?_
          simp only [List.take_succ_cons, List.take_zero, List.drop_succ_cons, List.drop_zero]
          repeat (first | (refine tree_det (by rfl) _ (by rfl) (fun W hW => by go_simp; (try simp (disch := omega) only [IntWalk.i64_in]); try rfl) ?_; simp only [Act.put, List.setIfInBounds_toArray, List.set_cons_succ, List.set_cons_zero]) | (refine tree_skip (by rfl) (by rfl) ?_; simp only [Act.put, List.setIfInBounds_toArray, List.set_cons_succ, List.set_cons_zero]))
          refine tree_val _ (by rfl) (by rfl) 26 _ (fun W hW => by go_simp; try rfl) (fun W hE hF => by exact HSUM.out W (Ext.below (show Ext [] wr W from hE))) ?_
          simp only [Act.put, List.setIfInBounds_toArray, List.set_cons_succ, List.set_cons_zero]
          repeat (first | (refine tree_det (by rfl) _ (by rfl) (fun W hW => by go_simp; (try simp (disch := omega) only [IntWalk.i64_in]); try rfl) ?_; simp only [Act.put, List.setIfInBounds_toArray, List.set_cons_succ, List.set_cons_zero]) | (refine tree_skip (by rfl) (by rfl) ?_; simp only [Act.put, List.setIfInBounds_toArray, List.set_cons_succ, List.set_cons_zero]))
          refine tree_val _ (by rfl) (by rfl) 25 _ (fun W hW => by go_simp; try rfl) (fun W hE hF => by exact HI.out W) ?_
          simp only [Act.put, List.setIfInBounds_toArray, List.set_cons_succ, List.set_cons_zero]
          repeat (first | (refine tree_det (by rfl) _ (by rfl) (fun W hW => by go_simp; (try simp (disch := omega) only [IntWalk.i64_in]); try rfl) ?_; simp only [Act.put, List.setIfInBounds_toArray, List.set_cons_succ, List.set_cons_zero]) | (refine tree_skip (by rfl) (by rfl) ?_; simp only [Act.put, List.setIfInBounds_toArray, List.set_cons_succ, List.set_cons_zero]))
          intro X hE hF
          have HXX := Lib.hid (Ext.below (show Ext [] wr X from hE))
          clear hE hF c1 f1 c0 f0
          go_wp2_with fail
          go_returns
          exact ⟨by rw [HR.out]; simp, bgo HKS.out.below HXX.out⟩
end Go.Proofs.YtdjgikcnmokjkaaGreat

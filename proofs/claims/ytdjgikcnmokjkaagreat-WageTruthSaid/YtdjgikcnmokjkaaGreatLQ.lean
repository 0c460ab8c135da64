/-
  The walk of WageTruth.
-/
import Derived.WalkKit
import Derived.WalkLawsBesides
import Derived.WalkSpells
import Derived.Outline
import Derived.Handy
import Derived.KernelRfl
import Derived.Lib.Hide
import Derived.BigRegion
import Derived.Deep.Cut
import Derived.Test.YtdjgikcnmokjkaaGreatZU
import Derived.Test.YtdjgikcnmokjkaaGreatKF
namespace Go.Proofs.YtdjgikcnmokjkaaGreat
open Go.RowKit Go.RG Go.SL Go.Shelf Cou Go.TB
set_option maxHeartbeats 400000
set_option maxRecDepth 10000

theorem sumI_take_succ {l : List Int} {k : Nat} (hk : k < l.length) : sumI (l.take (k + 1)) = sumI (l.take k) + l[k] := by
  rw [List.take_succ_eq_append_getElem hk, sumI_snoc]
theorem sumI_bd7 : ∀ (l : List Int), (∀ x ∈ l, 0 ≤ x ∧ x ≤ 350) → 0 ≤ sumI l ∧ sumI l ≤ 350 * l.length := by
  intro l
  induction l with
  | nil => intro _; simp [sumI]
  | cons a l ih => intro h; have := ih fun x hx => h x (by simp [hx]); have := h a (by simp); rw [sumI_cons]; simp only [List.length_cons]; push_cast; omega

set_option maxHeartbeats 16000000 in
theorem WageTruth_any (l : LedgerD) (tv nv wdv : Value) (words : List (Fin 65536)) (w : World) (ht : TalliesAt w tv l.field.tallies) (hn : TriplesAt w nv l.notes) (hwd : WordsAt w wdv words) :
    Calls Tryz.prog 18 #[lv l tv nv, wdv] w (PV (.bool true) w) := by
  obtain ⟨owd, cwd, rfl⟩ := hwd.open
  have HWD := Lib.hid hwd
  clear hwd
  have HA := Lib.hid (And.intro ht hn)
  have HR := Lib.hid (ready_any l tv nv (w.alloc (.cells (lcells l tv nv) 30)) (ht.alloc _) (hn.alloc _))
  obtain ⟨on, cn, rfl⟩ := hn.open
  clear ht hn
  obtain ⟨rd, hrd⟩ : ∃ rd, readyL l = rd := ⟨_, rfl⟩
  rw [hrd] at HR
  have HRD := Lib.hid hrd
  clear hrd
  go_enter Tryz.func18, Tryz.ntmps18
  go_wp2_with fail
  refine HR.out.mono ?_
  rintro e W1 ⟨rfl, hb⟩
  have hk0 := (hb.block w.heap.size (by simp)).trans (heap_new0 w (.cells (lcells l tv (.slice on l.notes.length cn)) 30))
  have HB1 := Lib.hid (And.intro (show Below w.heap.size w W1 from (by repeat (first | exact Below.refl _ _ | assumption | refine bgo ?_ (by assumption) | refine bgoAlloc ?_ _ | refine bgoDrew ?_ | refine bgoSet ?_ (by simp; omega) _))) hk0)
  obtain ⟨c0, f0, l0⟩ := cells_of_block hk0
  clear hb hk0
  cases rd
  · clear c0 f0 l0
    go_wp2_with fail
    refine (awake_any _).mono ?_
    rintro e W2 ⟨rfl, hb⟩
    have HB2 := Lib.hid (bgo HB1.out.1 hb)
    clear hb
    go_wp2_with fail
    go_returns
    exact ⟨by simp, HB2.out⟩
  obtain ⟨hz, hS, ht5, hn5, _, _⟩ := readyL_facts HRD.out
  have hw0 := (soundF_of hS.field).weed0
  have hw3 := (soundF_of hS.field).weed1
  have HM := Lib.hid (And.intro hz (And.intro hS (And.intro ht5 (And.intro hn5 (And.intro hw0 hw3)))))
  clear hz hS ht5 hw0 hw3
  have HK1 := Lib.hid (Keeps.one HB1.out.1 HB1.out.2)
  obtain ⟨ot, ct, rfl⟩ := HA.out.1.open
  go_wp2_with fail
  refine (Noted_any HM.out.2.1 (.slice ot l.field.tallies.length ct) (.slice on l.notes.length cn) (.slice owd words.length cwd) words W1 (HA.out.1.below HK1.out.below (Nat.le_refl _)) (HA.out.2.below HK1.out.below (Nat.le_refl _)) (HWD.out.below HK1.out.below (Nat.le_refl _))).mono ?_
  rintro e W2 ⟨rows, ps, ns, box, uu, vv, no, nc, rfl, hns, hrows, hps, htr, hn5, hb⟩
  obtain ⟨ro, rc, rfl⟩ := hrows.open
  obtain ⟨po, pc, rfl⟩ := hps.open
  obtain ⟨X, hX⟩ : ∃ X, notedG l box ns = X := ⟨_, rfl⟩
  have hXf : X.field = l.field := by rw [← hX]; rfl
  have hXn : X.notes = ns := by rw [← hX]; rfl
  rw [hX] at htr ⊢
  subst hXn
  have HTR := Lib.hid htr
  have htX := ((HA.out.1.below HK1.out.below (Nat.le_refl _)).below hb (Nat.le_refl _))
  rw [← hXf] at htX ⊢
  have HB2 := Lib.hid (bgo HK1.out.below hb)
  have HX2 := Lib.hid (And.intro htX (And.intro hns (And.intro hrows hps)))
  clear htr hX hXf htX hb hns hrows hps c0 f0 l0
  go_wp2_with fail
  refine gworldC fun W3 hW3 => ?_
  have hb3 : Below W2.heap.size W2 W3 := by rw [hW3]; exact bgoAlloc (bgoAlloc (Below.refl _ _) _) _
  have hx3 : W3.heap[W2.heap.size]? = some (.cells (lcells X (.slice ot X.field.tallies.length ct) (.slice no X.notes.length nc)) 30 (0, 0)) := by rw [hW3]; exact (Below.heap_alloc _ _ _ (by simp)).trans (heap_new0 _ _)
  have ht3 : W3.heap[W2.heap.size + 1]? = some (.cells #[.slice ro rows.length rc, .slice po ps.length pc] 70 (0, 0)) := by rw [hW3]; exact heap_new1 _ _ _
  have HBV := Lib.hid (bgo HB2.out hb3)
  have HAX := Lib.hid (And.intro (HX2.out.1.below hb3 (Nat.le_refl _)) (And.intro (HX2.out.2.1.below hb3 (Nat.le_refl _)) (And.intro (SlAt.below HX2.out.2.2.1 hb3 (Nat.le_refl _)) (SlAt.below HX2.out.2.2.2 hb3 (Nat.le_refl _)))))
  have HK3 := Lib.hid ((Keeps.one (Below.refl _ _) hx3).more ht3 (last_block ht3))
  obtain ⟨c0, f0, l0⟩ := cells_of_block hx3
  obtain ⟨c1, f1, l1⟩ := cells_of_block ht3
  obtain ⟨rd2, hrd2⟩ : ∃ rd, readyL X = rd := ⟨_, rfl⟩
  have HRX := Lib.hid (ready_any X (.slice ot X.field.tallies.length ct) (.slice no X.notes.length nc) W3 HAX.out.1 HAX.out.2.1)
  rw [hrd2] at HRX
  have HRD2 := Lib.hid hrd2
  clear hrd2 hW3 hb3 hx3 ht3 HX2
  refine HRX.out.mono ?_
  rintro e W4 ⟨rfl, hb⟩
  clear HRX
  have HK4 := Lib.hid (HK3.out.next hb)
  clear hb
  (try clear c0 f0)
  (try clear c1 f1)
  obtain ⟨c0, f0, l0⟩ := cells_of_block HK4.out.blk.2
  obtain ⟨c1, f1, l1⟩ := cells_of_block HK4.out.blk.1
  cases rd2
  · go_wp2_with fail
    refine (awake_any _).mono ?_
    rintro e W5 ⟨rfl, hb⟩
    have HB5 := Lib.hid (bgo HK4.out.below hb)
    clear hb
    go_wp2_with fail
    go_returns
    exact ⟨by simp, bgo HBV.out HB5.out⟩
  obtain ⟨hz, hS, ht5, hn5', _, _⟩ := readyL_facts HRD2.out
  have hw0 := (soundF_of hS.field).weed0
  have hw3 := (soundF_of hS.field).weed1
  have HMX := Lib.hid (And.intro hz (And.intro hS (And.intro ht5 (And.intro hn5' (And.intro hw0 hw3)))))
  have HAS := Lib.hid (HTR.out.asked hz)
  clear hz hS ht5 hn5'
  have hrl := row_len HMX.out.2.1 HTR.out.rowsT
  have hrn := truthsF_len HTR.out.rowsT
  obtain ⟨n, hnw⟩ : ∃ n : Nat, X.field.weeders = n := ⟨X.field.weeders.toNat, by omega⟩
  have hwt : X.field.weeders.toNat = n := by omega
  have hn3 : n ≤ 3 := by omega
  have HNW := Lib.hid (And.intro hnw hwt)
  have hpt := proveTruth_yes (truthsF_mem HTR.out.rowsT).1 HMX.out.2.1.field
  rw [(truthsF_mem HTR.out.rowsT).2] at hpt
  have HDE := Lib.hid (show dueErr X rows = 0 from by unfold dueErr; rw [HMX.out.1, hpt]; simp)
  have hdl := dueV_length HMX.out.2.1 rows
  have hdb := dueV_bd HMX.out.2.1 hrl
  have hds := due_sum HMX.out.2.1 HTR.out.rowsT
  have hpl := HTR.out.len
  have hsm := asked_ok HAS.out
  have k1 : (bndL partE X (duesT X)).length = n := by rw [least_len hsm.1 hsm.2]; exact hwt
  have k2 : (bndL partP X (duesT X)).length = n := by rw [least_len hsm.1 hsm.2]; exact hwt
  have k3 : (bndL partO X (duesT X)).length = n := by rw [least_len hsm.1 hsm.2]; exact hwt
  have hins := fun (i : Nat) (hi : i < n) => HTR.out.inside (i := i) (by omega)
  have hdg := fun (i : Nat) (hi : i < n) => due_get (l := X) rows (w := i) (by omega)
  have hpy := fun (i : Nat) (hi : i < n) => HTR.out.pay i (by omega)
  have hbx := HTR.out.box
  obtain ⟨R1, hR1⟩ : ∃ R, bndL partE X (duesT X) = R := ⟨_, rfl⟩
  obtain ⟨R2, hR2⟩ : ∃ R, bndL partP X (duesT X) = R := ⟨_, rfl⟩
  obtain ⟨R3, hR3⟩ : ∃ R, bndL partO X (duesT X) = R := ⟨_, rfl⟩
  obtain ⟨D, hD⟩ : ∃ D, dueV X rows = D := ⟨_, rfl⟩
  rw [hR1] at k1
  rw [hR2] at k2
  rw [hR3] at k3
  rw [hwt] at hdl hpl
  rw [hD] at hdl hdb hds
  simp only [hD] at hdg
  simp only [hR1, hR2, hR3] at hins
  have HR1 := Lib.hid (And.intro hR1 k1)
  have HR2 := Lib.hid (And.intro hR2 k2)
  have HR3 := Lib.hid (And.intro hR3 k3)
  have hpb : ∀ z ∈ ps, 0 ≤ z ∧ z ≤ 350 := fun z hz => by
    obtain ⟨i, hi, rfl⟩ := List.getElem_of_mem hz
    have h1 := hpy i (by omega)
    rw [← hdg i (by omega), show ps.getD i 0 = ps[i] from by simp [List.getD, hi], show D.getD i 0 = D[i]'(by omega) from by simp [List.getD, show i < D.length by omega]] at h1
    have := hdb _ (List.getElem_mem (show i < D.length by omega))
    omega
  have HIN := Lib.hid (fun (i : Nat) (hi : i < n) => show ((R1.getD i (0, 0)).1 ≤ D.getD i 0 ∧ D.getD i 0 ≤ (R1.getD i (0, 0)).2) ∧ ((R2.getD i (0, 0)).1 ≤ ps.getD i 0 ∧ ps.getD i 0 ≤ (R2.getD i (0, 0)).2) ∧ ((R3.getD i (0, 0)).1 ≤ D.getD i 0 - ps.getD i 0 ∧ D.getD i 0 - ps.getD i 0 ≤ (R3.getD i (0, 0)).2) from by
    have := hins i hi
    rw [← hdg i hi] at this
    exact this)
  have HDD := Lib.hid (And.intro hD (And.intro hdl (And.intro hdb (And.intro hpb (And.intro hds hbx)))))
  have HPL := Lib.hid hpl
  have HLV := Lib.hid (HTR.out.leave HMX.out.1)
  have HFI := Lib.hid HTR.out.first
  have hwnb : ((n : Int) != X.field.weeders) = false := by rw [hnw]; simp
  have hrl9 : rows.length ≤ 9 := by omega
  clear hrn hnw hwt hpt hdl hdb hds hpl hsm k1 k2 k3 hins hdg hpy hbx hR1 hR2 hR3 hD hpb hw0 hw3
  go_wp2_with fail
  refine wp_region_rg 11 [] none [(1, ⟨fun _ v => ∃ a b, v = lv X a b, fun _ v Wx => ∃ a b, v = lv X a b ∧ TalliesAt Wx a X.field.tallies ∧ TriplesAt Wx b X.notes⟩), (4, ⟨fun _ v => ∃ o c, v = .slice o (rows).length c, fun _ v Wx => IntsAt Wx v (rows)⟩), (5, ⟨fun _ v => ∃ o c, v = .tuple #[.slice o n c, iv 0], fun _ v Wx => ∃ o c, v = .tuple #[.slice o n c, iv 0] ∧ SlAt 1 Wx (.slice o n c) n (intCells D)⟩)] (by as_aux_lemma => kernel_rfl) (by as_aux_lemma => kernel_rfl) ?_
  simp only [List.take_succ_cons, List.take_zero, List.drop_succ_cons, List.drop_zero]
  repeat (first | (refine tree_det (by rfl) _ (by rfl) (fun W hW => by go_simp; (try simp (disch := omega) only [IntWalk.i64_in]); try rfl) ?_; simp only [Act.put, List.setIfInBounds_toArray, List.set_cons_succ, List.set_cons_zero]) | (refine tree_skip (by rfl) (by rfl) ?_; simp only [Act.put, List.setIfInBounds_toArray, List.set_cons_succ, List.set_cons_zero]))
  refine tree_some _ (by rfl) (by rfl) (by exact ⟨lv X (.slice none 0 0) (.slice none 0 0), _, _, rfl⟩) (fun Wx hE hF => ?_) (fun v Wx Wy ho hE => ?_) (fun v hv => ?_)
  · have hE' : Ext [] W4 Wx := hE
    refine does_enter 22 #[lv X (.slice ot X.field.tallies.length ct) (.slice no X.notes.length nc)] (by go_simp; try rfl) ?_
    refine (Ledger_any X (.slice ot X.field.tallies.length ct) (.slice no X.notes.length nc) Wx (HAX.out.1.below (bgo HK4.out.below hE'.below) (Nat.le_refl _)) (HAX.out.2.1.below (bgo HK4.out.below hE'.below) (Nat.le_refl _)) (by have := HMX.out.2.2.1; omega) (by have := HMX.out.2.2.2.1; omega)).mono ?_
    rintro e W' ⟨a0, b0, rfl, ht0, hn0, hb⟩
    exact ⟨_, rfl, ⟨_, _, rfl⟩, ⟨_, _, rfl, ht0, hn0⟩, Ext.of_below hb⟩
  · obtain ⟨a0, b0, rfl, g1, g2⟩ := ho
    have hb := Ext.below (show Ext [] Wx Wy from hE)
    exact ⟨_, _, rfl, g1.below hb (Nat.le_refl _), g2.below hb (Nat.le_refl _)⟩
  obtain ⟨a2, b2, rfl⟩ := hv
  simp only [Act.put, List.setIfInBounds_toArray, List.set_cons_succ, List.set_cons_zero]
  repeat (first | (refine tree_det (by rfl) _ (by rfl) (fun W hW => by go_simp; (try simp (disch := omega) only [IntWalk.i64_in]); try rfl) ?_; simp only [Act.put, List.setIfInBounds_toArray, List.set_cons_succ, List.set_cons_zero]) | (refine tree_skip (by rfl) (by rfl) ?_; simp only [Act.put, List.setIfInBounds_toArray, List.set_cons_succ, List.set_cons_zero]))
  refine tree_some _ (by rfl) (by rfl) (by exact ⟨.slice none rows.length 0, none, 0, rfl⟩) (fun Wx hE hF => ?_) (fun v Wx Wy ho hE => SlAt.below ho (Ext.below (show Ext [] Wx Wy from hE)) (Nat.le_refl _)) (fun v hv => ?_)
  · have hE' : Ext [] W4 Wx := hE
    refine does_enter 47 #[.slice ro rows.length rc] (by go_simp; try rfl) ?_
    refine (list_any rows (.slice ro rows.length rc) Wx (HAX.out.2.2.1.below (bgo HK4.out.below hE'.below) (Nat.le_refl _)) (by omega)).mono ?_
    rintro e W' ⟨u, rfl, hu, hb⟩
    exact ⟨_, rfl, owns_slice hu, SlAt.of_owns hu, Ext.of_below hb⟩
  obtain ⟨o4, c4, rfl⟩ := hv
  simp only [Act.put, List.setIfInBounds_toArray, List.set_cons_succ, List.set_cons_zero]
  repeat (first | (refine tree_det (by rfl) _ (by rfl) (fun W hW => by go_simp; (try simp (disch := omega) only [IntWalk.i64_in]); try rfl) ?_; simp only [Act.put, List.setIfInBounds_toArray, List.set_cons_succ, List.set_cons_zero]) | (refine tree_skip (by rfl) (by rfl) ?_; simp only [Act.put, List.setIfInBounds_toArray, List.set_cons_succ, List.set_cons_zero]))
  refine tree_some _ (by rfl) (by rfl) (by exact ⟨.tuple #[.slice none n 0, iv 0], none, 0, rfl⟩) (fun Wx hE hF => ?_) (fun v Wx Wy ho hE => ?_) (fun v hv => ?_)
  · obtain ⟨a0, b0, he, g1, g2⟩ := hF _ (List.Mem.tail _ (List.Mem.head _)) (by kernel_rfl)
    cases he
    have g3 : IntsAt Wx (.slice o4 rows.length c4) rows := hF _ (List.Mem.head _) (by kernel_rfl)
    refine does_enter 67 #[lv X a2 b2, .slice o4 rows.length c4] (by go_simp; try rfl) ?_
    refine (Due_any X a2 b2 (.slice o4 rows.length c4) rows Wx g1 g2 g3).mono ?_
    rintro e W' ⟨hb, ⟨hne, _⟩ | ⟨_, u, rfl, hu⟩⟩
    · exact absurd HDE.out hne
    · rw [HDD.out.1] at hu
      obtain ⟨uo, uc, rfl⟩ := hu.open
      have hu := IntsAt.at_ hu HDD.out.2.1
      rw [HDD.out.2.1] at hu ⊢
      exact ⟨_, rfl, ⟨_, _, rfl⟩, ⟨_, _, rfl, hu⟩, Ext.of_below hb⟩
  · obtain ⟨uo, uc, rfl, hu⟩ := ho
    exact ⟨_, _, rfl, SlAt.below hu (Ext.below (show Ext [] Wx Wy from hE)) (Nat.le_refl _)⟩
  obtain ⟨uo, uc, rfl⟩ := hv
  simp only [Act.put, List.setIfInBounds_toArray, List.set_cons_succ, List.set_cons_zero]
  repeat (first | (refine tree_det (by rfl) _ (by rfl) (fun W hW => by go_simp; (try simp (disch := omega) only [IntWalk.i64_in]); try rfl) ?_; simp only [Act.put, List.setIfInBounds_toArray, List.set_cons_succ, List.set_cons_zero]) | (refine tree_skip (by rfl) (by rfl) ?_; simp only [Act.put, List.setIfInBounds_toArray, List.set_cons_succ, List.set_cons_zero]))
  intro W5 hE hF
  obtain ⟨_, _, he, hu⟩ := hF _ (List.Mem.head _)
  cases he
  have HU := Lib.hid hu
  have hb := Ext.below (show Ext [] W4 W5 from hE)
  clear hE hF hu
  have HK5 := Lib.hid (HK4.out.next hb)
  clear hb
  (try clear c0 f0)
  (try clear c1 f1)
  obtain ⟨c0, f0, l0⟩ := cells_of_block HK5.out.blk.2
  obtain ⟨c1, f1, l1⟩ := cells_of_block HK5.out.blk.1
  have HK5 := Lib.hid (HK5.out.add (T := fun W => SlAt 1 W (.slice uo n uc) n (intCells D)) HU.out (last_at HU.out))
  go_wp2_with fail
  refine (Ledger_any (X) (.slice ot X.field.tallies.length ct) (.slice no X.notes.length nc) W5 (HAX.out.1.below HK5.out.below (Nat.le_refl _)) (HAX.out.2.1.below HK5.out.below (Nat.le_refl _)) (by have := HMX.out.2.2.1; omega) (by have := HMX.out.2.2.2.1; omega)).mono ?_
  rintro e W6 ⟨a6, b6, rfl, ht6, hn6, hb⟩
  have HL6 := Lib.hid (And.intro ht6 hn6)
  clear ht6 hn6
  have HK6 := Lib.hid (HK5.out.next hb)
  clear hb
  (try clear c0 f0)
  (try clear c1 f1)
  obtain ⟨c0, f0, l0⟩ := cells_of_block HK6.out.blk.2
  obtain ⟨c1, f1, l1⟩ := cells_of_block HK6.out.blk.1
  go_wp2_with fail
  refine (Earned_any (X) a6 b6 W6 HL6.out.1 HL6.out.2).mono ?_
  rintro e W7 ⟨hb, ⟨hne, _⟩ | ⟨_, u7, rfl, hu7⟩⟩
  · exact absurd (HAS.out) hne
  rw [HR1.out.1] at hu7
  obtain ⟨uo7, uc7, rfl⟩ := hu7.open
  have hv7 : SlAt 2 W7 (.slice uo7 n uc7) n (pairCells R1) := by have := PairsAt.at_ hu7 (HR1.out.2); rw [HR1.out.2] at this; exact this
  rw [HR1.out.2]
  have HV7 := Lib.hid hv7
  clear hu7 hv7
  have HK7 := Lib.hid (HK6.out.next hb)
  clear hb
  (try clear c0 f0)
  (try clear c1 f1)
  obtain ⟨c0, f0, l0⟩ := cells_of_block HK7.out.blk.2
  obtain ⟨c1, f1, l1⟩ := cells_of_block HK7.out.blk.1
  have HK7 := Lib.hid (HK7.out.add HV7.out (last_at HV7.out))
  go_wp2_with fail
  refine (Ledger_any (X) (.slice ot X.field.tallies.length ct) (.slice no X.notes.length nc) W7 (HAX.out.1.below HK7.out.below (Nat.le_refl _)) (HAX.out.2.1.below HK7.out.below (Nat.le_refl _)) (by have := HMX.out.2.2.1; omega) (by have := HMX.out.2.2.2.1; omega)).mono ?_
  rintro e W8 ⟨a8, b8, rfl, ht8, hn8, hb⟩
  have HL8 := Lib.hid (And.intro ht8 hn8)
  clear ht8 hn8
  have HK8 := Lib.hid (HK7.out.next hb)
  clear hb
  (try clear c0 f0)
  (try clear c1 f1)
  obtain ⟨c0, f0, l0⟩ := cells_of_block HK8.out.blk.2
  obtain ⟨c1, f1, l1⟩ := cells_of_block HK8.out.blk.1
  go_wp2_with fail
  refine (Paid_any (X) a8 b8 W8 HL8.out.1 HL8.out.2).mono ?_
  rintro e W9 ⟨hb, ⟨hne, _⟩ | ⟨_, u9, rfl, hu9⟩⟩
  · exact absurd (HAS.out) hne
  rw [HR2.out.1] at hu9
  obtain ⟨uo9, uc9, rfl⟩ := hu9.open
  have hv9 : SlAt 2 W9 (.slice uo9 n uc9) n (pairCells R2) := by have := PairsAt.at_ hu9 (HR2.out.2); rw [HR2.out.2] at this; exact this
  rw [HR2.out.2]
  have HV9 := Lib.hid hv9
  clear hu9 hv9
  have HK9 := Lib.hid (HK8.out.next hb)
  clear hb
  (try clear c0 f0)
  (try clear c1 f1)
  obtain ⟨c0, f0, l0⟩ := cells_of_block HK9.out.blk.2
  obtain ⟨c1, f1, l1⟩ := cells_of_block HK9.out.blk.1
  have HK9 := Lib.hid (HK9.out.add HV9.out (last_at HV9.out))
  go_wp2_with fail
  refine (Ledger_any (X) (.slice ot X.field.tallies.length ct) (.slice no X.notes.length nc) W9 (HAX.out.1.below HK9.out.below (Nat.le_refl _)) (HAX.out.2.1.below HK9.out.below (Nat.le_refl _)) (by have := HMX.out.2.2.1; omega) (by have := HMX.out.2.2.2.1; omega)).mono ?_
  rintro e W10 ⟨a10, b10, rfl, ht10, hn10, hb⟩
  have HL10 := Lib.hid (And.intro ht10 hn10)
  clear ht10 hn10
  have HK10 := Lib.hid (HK9.out.next hb)
  clear hb
  (try clear c0 f0)
  (try clear c1 f1)
  obtain ⟨c0, f0, l0⟩ := cells_of_block HK10.out.blk.2
  obtain ⟨c1, f1, l1⟩ := cells_of_block HK10.out.blk.1
  go_wp2_with fail
  refine (Owed_any (X) a10 b10 W10 HL10.out.1 HL10.out.2).mono ?_
  rintro e W11 ⟨hb, ⟨hne, _⟩ | ⟨_, u11, rfl, hu11⟩⟩
  · exact absurd (HAS.out) hne
  rw [HR3.out.1] at hu11
  obtain ⟨uo11, uc11, rfl⟩ := hu11.open
  have hv11 : SlAt 2 W11 (.slice uo11 n uc11) n (pairCells R3) := by have := PairsAt.at_ hu11 (HR3.out.2); rw [HR3.out.2] at this; exact this
  rw [HR3.out.2]
  have HV11 := Lib.hid hv11
  clear hu11 hv11
  have HK11 := Lib.hid (HK10.out.next hb)
  clear hb
  (try clear c0 f0)
  (try clear c1 f1)
  obtain ⟨c0, f0, l0⟩ := cells_of_block HK11.out.blk.2
  obtain ⟨c1, f1, l1⟩ := cells_of_block HK11.out.blk.1
  have HK11 := Lib.hid (HK11.out.add HV11.out (last_at HV11.out))
  go_wp2_with fail
  refine (Ledger_any (X) (.slice ot X.field.tallies.length ct) (.slice no X.notes.length nc) W11 (HAX.out.1.below HK11.out.below (Nat.le_refl _)) (HAX.out.2.1.below HK11.out.below (Nat.le_refl _)) (by have := HMX.out.2.2.1; omega) (by have := HMX.out.2.2.2.1; omega)).mono ?_
  rintro e W12 ⟨a12, b12, rfl, ht12, hn12, hb⟩
  have HL12 := Lib.hid (And.intro ht12 hn12)
  clear ht12 hn12
  have HK12 := Lib.hid (HK11.out.next hb)
  clear hb
  (try clear c0 f0)
  (try clear c1 f1)
  obtain ⟨c0, f0, l0⟩ := cells_of_block HK12.out.blk.2
  obtain ⟨c1, f1, l1⟩ := cells_of_block HK12.out.blk.1
  go_wp2_with fail
  refine (Leave_any (X) a12 b12 W12 HL12.out.1 HL12.out.2).mono ?_
  rintro e W13 ⟨hb, ⟨hne, _⟩ | ⟨_, u13, rfl, hu13⟩⟩
  · exact absurd (HMX.out.1) hne
  rw [HLV.out] at hu13
  obtain ⟨uo13, uc13, rfl⟩ := hu13.open
  have HU13 := Lib.hid hu13
  clear hu13
  have HK13 := Lib.hid (HK12.out.next hb)
  clear hb
  (try clear c0 f0)
  (try clear c1 f1)
  obtain ⟨c0, f0, l0⟩ := cells_of_block HK13.out.blk.2
  obtain ⟨c1, f1, l1⟩ := cells_of_block HK13.out.blk.1
  have HK13 := Lib.hid (HK13.out.add (show IntsAt W13 (.slice uo13 (([] : List Int)).length uc13) (([] : List Int)) from HU13.out) (last_at HU13.out))
  go_wp2_with fail
  refine (Ledger_any (X) (.slice ot X.field.tallies.length ct) (.slice no X.notes.length nc) W13 (HAX.out.1.below HK13.out.below (Nat.le_refl _)) (HAX.out.2.1.below HK13.out.below (Nat.le_refl _)) (by have := HMX.out.2.2.1; omega) (by have := HMX.out.2.2.2.1; omega)).mono ?_
  rintro e W14 ⟨a14, b14, rfl, ht14, hn14, hb⟩
  have HL14 := Lib.hid (And.intro ht14 hn14)
  clear ht14 hn14
  have HK14 := Lib.hid (HK13.out.next hb)
  clear hb
  (try clear c0 f0)
  (try clear c1 f1)
  obtain ⟨c0, f0, l0⟩ := cells_of_block HK14.out.blk.2
  obtain ⟨c1, f1, l1⟩ := cells_of_block HK14.out.blk.1
  go_wp2_with fail
  refine (First_any X a14 b14 W14 HL14.out.1 HL14.out.2).mono ?_
  rintro e W15 ⟨hb, ⟨hne, _⟩ | ⟨_, rfl⟩⟩
  · exact absurd HMX.out.1 hne
  rw [HFI.out.1, HFI.out.2]
  have HK15 := Lib.hid (HK14.out.next hb)
  clear hb
  (try clear c0 f0)
  (try clear c1 f1)
  obtain ⟨c0, f0, l0⟩ := cells_of_block HK15.out.blk.2
  obtain ⟨c1, f1, l1⟩ := cells_of_block HK15.out.blk.1
  go_wp2_with fail
  refine wp_region_rg 58 [] none [(53, ⟨fun _ v => ∃ a b, v = lv X a b, fun _ v Wx => ∃ a b, v = lv X a b ∧ TalliesAt Wx a X.field.tallies ∧ TriplesAt Wx b X.notes⟩), (55, ⟨fun _ v => ∃ a b, v = .agg #[a, b], fun _ v Wx => ∃ a b, v = .agg #[a, b] ∧ IntsAt Wx a (rows) ∧ IntsAt Wx b (ps)⟩), (56, Spec.val (.bool true))] (by as_aux_lemma => kernel_rfl) (by as_aux_lemma => kernel_rfl) ?_
  simp only [List.take_succ_cons, List.take_zero, List.drop_succ_cons, List.drop_zero]
  repeat (first | (refine tree_det (by rfl) _ (by rfl) (fun W hW => by go_simp; (try simp (disch := omega) only [IntWalk.i64_in]); try rfl) ?_; simp only [Act.put, List.setIfInBounds_toArray, List.set_cons_succ, List.set_cons_zero]) | (refine tree_skip (by rfl) (by rfl) ?_; simp only [Act.put, List.setIfInBounds_toArray, List.set_cons_succ, List.set_cons_zero]))
  refine tree_some _ (by rfl) (by rfl) (by exact ⟨lv X (.slice none 0 0) (.slice none 0 0), _, _, rfl⟩) (fun Wx hE hF => ?_) (fun v Wx Wy ho hE => ?_) (fun v hv => ?_)
  · have hE' : Ext [] W15 Wx := hE
    refine does_enter 22 #[lv X (.slice ot X.field.tallies.length ct) (.slice no X.notes.length nc)] (by go_simp; try rfl) ?_
    refine (Ledger_any X (.slice ot X.field.tallies.length ct) (.slice no X.notes.length nc) Wx (HAX.out.1.below (bgo HK15.out.below hE'.below) (Nat.le_refl _)) (HAX.out.2.1.below (bgo HK15.out.below hE'.below) (Nat.le_refl _)) (by have := HMX.out.2.2.1; omega) (by have := HMX.out.2.2.2.1; omega)).mono ?_
    rintro e W' ⟨a0, b0, rfl, ht0, hn0, hb⟩
    exact ⟨_, rfl, ⟨_, _, rfl⟩, ⟨_, _, rfl, ht0, hn0⟩, Ext.of_below hb⟩
  · obtain ⟨a0, b0, rfl, g1, g2⟩ := ho
    have hb := Ext.below (show Ext [] Wx Wy from hE)
    exact ⟨_, _, rfl, g1.below hb (Nat.le_refl _), g2.below hb (Nat.le_refl _)⟩
  obtain ⟨a7, b7, rfl⟩ := hv
  simp only [Act.put, List.setIfInBounds_toArray, List.set_cons_succ, List.set_cons_zero]
  repeat (first | (refine tree_det (by rfl) _ (by rfl) (fun W hW => by go_simp; (try simp (disch := omega) only [IntWalk.i64_in]); try rfl) ?_; simp only [Act.put, List.setIfInBounds_toArray, List.set_cons_succ, List.set_cons_zero]) | (refine tree_skip (by rfl) (by rfl) ?_; simp only [Act.put, List.setIfInBounds_toArray, List.set_cons_succ, List.set_cons_zero]))
  refine tree_some _ (by rfl) (by rfl) (by exact ⟨.agg #[.slice none 0 0, .slice none 0 0], _, _, rfl⟩) (fun Wx hE hF => ?_) (fun v Wx Wy ho hE => ?_) (fun v hv => ?_)
  · have hE' : Ext [] W15 Wx := hE
    have hb := hE'.below
    refine does_enter 70 #[.agg #[.slice ro rows.length rc, .slice po ps.length pc]] (by go_simp; try rfl) ?_
    refine (zTruth_any rows ps (.slice ro rows.length rc) (.slice po ps.length pc) Wx (HAX.out.2.2.1.below (bgo HK15.out.below hb) (Nat.le_refl _)) (HAX.out.2.2.2.below (bgo HK15.out.below hb) (Nat.le_refl _)) (by omega) (by have := HPL.out; omega)).mono ?_
    rintro e W' ⟨u, v, rfl, hu, hv, hb⟩
    exact ⟨_, rfl, ⟨_, _, rfl⟩, ⟨_, _, rfl, hu, hv⟩, Ext.of_below hb⟩
  · obtain ⟨a0, b0, rfl, g1, g2⟩ := ho
    have hb := Ext.below (show Ext [] Wx Wy from hE)
    exact ⟨_, _, rfl, g1.below hb (Nat.le_refl _), g2.below hb (Nat.le_refl _)⟩
  obtain ⟨a9, b9, rfl⟩ := hv
  simp only [Act.put, List.setIfInBounds_toArray, List.set_cons_succ, List.set_cons_zero]
  repeat (first | (refine tree_det (by rfl) _ (by rfl) (fun W hW => by go_simp; (try simp (disch := omega) only [IntWalk.i64_in]); try rfl) ?_; simp only [Act.put, List.setIfInBounds_toArray, List.set_cons_succ, List.set_cons_zero]) | (refine tree_skip (by rfl) (by rfl) ?_; simp only [Act.put, List.setIfInBounds_toArray, List.set_cons_succ, List.set_cons_zero]))
  refine tree_val _ (by rfl) (by rfl) 69 #[lv X a7 b7, .agg #[a9, b9]] (fun W hW => by go_simp; try rfl) (fun Wx hE hF => ?_) ?_
  · obtain ⟨a0, b0, he, g1, g2⟩ := hF _ (List.Mem.tail _ (List.Mem.head _)) (by kernel_rfl)
    cases he
    obtain ⟨a0, b0, he, g3, g4⟩ := hF _ (List.Mem.head _) (by kernel_rfl)
    cases he
    have := ProveTruth_any X a7 b7 a9 b9 rows ps Wx g1 g2 g3 g4
    rw [HTR.out.prove HMX.out.1] at this
    exact this
  simp only [Act.put, List.setIfInBounds_toArray, List.set_cons_succ, List.set_cons_zero]
  repeat (first | (refine tree_det (by rfl) _ (by rfl) (fun W hW => by go_simp; (try simp (disch := omega) only [IntWalk.i64_in]); try rfl) ?_; simp only [Act.put, List.setIfInBounds_toArray, List.set_cons_succ, List.set_cons_zero]) | (refine tree_skip (by rfl) (by rfl) ?_; simp only [Act.put, List.setIfInBounds_toArray, List.set_cons_succ, List.set_cons_zero]))
  intro W16 hE hF
  have hb := Ext.below (show Ext [] W15 W16 from hE)
  clear hE hF
  have HK16 := Lib.hid (HK15.out.next hb)
  clear hb
  (try clear c0 f0)
  (try clear c1 f1)
  obtain ⟨c0, f0, l0⟩ := cells_of_block HK16.out.blk.2
  obtain ⟨c1, f1, l1⟩ := cells_of_block HK16.out.blk.1
  go_wp2_with fail
  clear c0 f0 c1 f1 hwnb
  go_loopw [20, 21] (fun v20 u wr => ∃ k : Nat, k ≤ n ∧ u = .int .i64 k ∧ v20 = .int .i64 (sumI (D.take k) - sumI (ps.take k)) ∧ Below W16.heap.size W16 wr) (fun _ u _ => n - (intOf u).toNat)
  case atStart => exact ⟨0, Nat.zero_le _, rfl, by simp [sumI], Below.refl _ _⟩
  case round =>
    obtain ⟨k, hk, rfl, rfl, hb⟩ := hrel
    generalize wr = W17 at *
    have HB17 := Lib.hid hb
    have HK17 := Lib.hid (HK16.out.next hb)
    clear hb
    (try clear c0 f0)
    (try clear c1 f1)
    obtain ⟨c0, f0, l0⟩ := cells_of_block HK17.out.blk.2
    obtain ⟨c1, f1, l1⟩ := cells_of_block HK17.out.blk.1
    have hdt := sumI_bd7 (D.take k) (fun x hx => HDD.out.2.2.1 x (List.mem_of_mem_take hx))
    have hpt := sumI_bd7 (ps.take k) (fun x hx => HDD.out.2.2.2.1 x (List.mem_of_mem_take hx))
    have hl1 : (D.take k).length ≤ 3 := by rw [List.length_take, HDD.out.2.1]; omega
    have hl2 : (ps.take k).length ≤ 3 := by rw [List.length_take, HPL.out]; omega
    obtain ⟨ow, how⟩ : ∃ ow, sumI (D.take k) - sumI (ps.take k) = ow := ⟨_, rfl⟩
    have hob : -1100 ≤ ow ∧ ow ≤ 1100 := by omega
    rw [how]
    by_cases hlt : k < n
    · have hltI : (k : Int) < n := by omega
      have hltW : (k : Int) < X.field.weeders := by rw [HNW.out.1]; exact hltI
      have hkD : k < D.length := by rw [HDD.out.2.1]; exact hlt
      have hkP : k < ps.length := by rw [HPL.out]; exact hlt
      have hk1 : k < R1.length := by rw [HR1.out.2]; exact hlt
      have hk2 : k < R2.length := by rw [HR2.out.2]; exact hlt
      have hk3 : k < R3.length := by rw [HR3.out.2]; exact hlt
      obtain ⟨b1, o1, h1, j1, d1⟩ := IntsAt.cell (l := D) HK17.out.is.2.2.2.2.1 hkD
      obtain ⟨b2, o2, h2, j2, d2⟩ := IntsAt.cell (HAX.out.2.2.2.below HK17.out.below (Nat.le_refl _)) hkP
      obtain ⟨b3, o3, h3, j3, p0, p1⟩ := PairsAt.cell (l := R1) HK17.out.is.2.2.2.1 hk1
      obtain ⟨b4, o4', h4, j4, p2, p3⟩ := PairsAt.cell (l := R2) HK17.out.is.2.2.1 hk2
      obtain ⟨b5, o5, h5, j5, p4, p5⟩ := PairsAt.cell (l := R3) HK17.out.is.2.1 hk3
      have hin := HIN.out k hlt
      rw [show D.getD k 0 = D[k] from by simp [List.getD, hkD], show ps.getD k 0 = ps[k] from by simp [List.getD, hkP], show R1.getD k (0, 0) = R1[k] from by simp [List.getD, hk1], show R2.getD k (0, 0) = R2[k] from by simp [List.getD, hk2], show R3.getD k (0, 0) = R3[k] from by simp [List.getD, hk3]] at hin
      have hsu1 := sumI_take_succ hkD
      have hsu2 := sumI_take_succ hkP
      have hdk := HDD.out.2.2.1 _ (List.getElem_mem hkD)
      have hpk := HDD.out.2.2.2.1 _ (List.getElem_mem hkP)
      generalize D[k] = dk at *
      generalize ps[k] = pk at *
      generalize R1[k] = r1 at *
      generalize R2[k] = r2 at *
      generalize R3[k] = r3 at *
      obtain ⟨r10, r11⟩ := r1
      obtain ⟨r20, r21⟩ := r2
      obtain ⟨r30, r31⟩ := r3
      simp only at hin p0 p1 p2 p3 p4 p5
      have hkPI : (k : Int) < ps.length := by omega
      have HI1 := Lib.hid (fun W : World => in_any dk (r10, r11) W)
      have HI2 := Lib.hid (fun W : World => in_any pk (r20, r21) W)
      have HI3 := Lib.hid (fun W : World => in_any (dk - pk) (r30, r31) W)
      rw [show inB dk (r10, r11).1 (r10, r11).2 = true from by unfold inB; simp; omega] at HI1
      rw [show inB pk (r20, r21).1 (r20, r21).2 = true from by unfold inB; simp; omega] at HI2
      rw [show inB (dk - pk) (r30, r31).1 (r30, r31).2 = true from by unfold inB; simp; omega] at HI3
      have HSU := Lib.hid (show sumI (D.take (k + 1)) - sumI (ps.take (k + 1)) = ow + (dk - pk) from by omega)
      cases h1
      cases h2
      cases h3
      cases h4
      cases h5
      clear hin hsu1 hsu2 hdt hpt hl1 hl2 how
      go_wp2_with fail
      refine wp_region_rg 40 [] none [(8, Spec.val (.bool true)), (20, Spec.val (.bool true)), (38, Spec.val (.bool true))] (by as_aux_lemma => kernel_rfl) (by as_aux_lemma => kernel_rfl) ?_
      simp only [List.take_succ_cons, List.take_zero, List.drop_succ_cons, List.drop_zero]
      repeat (first | (refine tree_det (by rfl) _ (by rfl) (fun W hW => by go_simp; (try simp (disch := omega) only [IntWalk.i64_in]); try rfl) ?_; simp only [Act.put, List.setIfInBounds_toArray, List.set_cons_succ, List.set_cons_zero]) | (refine tree_skip (by rfl) (by rfl) ?_; simp only [Act.put, List.setIfInBounds_toArray, List.set_cons_succ, List.set_cons_zero]))
      refine tree_val _ (by rfl) (by rfl) 40 #[iv dk, rv (r10, r11)] (fun W hW => by go_simp; try rfl) (fun W hE hF => by exact HI1.out W) ?_
      simp only [Act.put, List.setIfInBounds_toArray, List.set_cons_succ, List.set_cons_zero]
      repeat (first | (refine tree_det (by rfl) _ (by rfl) (fun W hW => by go_simp; (try simp (disch := omega) only [IntWalk.i64_in]); try rfl) ?_; simp only [Act.put, List.setIfInBounds_toArray, List.set_cons_succ, List.set_cons_zero]) | (refine tree_skip (by rfl) (by rfl) ?_; simp only [Act.put, List.setIfInBounds_toArray, List.set_cons_succ, List.set_cons_zero]))
      refine tree_val _ (by rfl) (by rfl) 40 #[iv pk, rv (r20, r21)] (fun W hW => by go_simp; try rfl) (fun W hE hF => by exact HI2.out W) ?_
      simp only [Act.put, List.setIfInBounds_toArray, List.set_cons_succ, List.set_cons_zero]
      repeat (first | (refine tree_det (by rfl) _ (by rfl) (fun W hW => by go_simp; (try simp (disch := omega) only [IntWalk.i64_in]); try rfl) ?_; simp only [Act.put, List.setIfInBounds_toArray, List.set_cons_succ, List.set_cons_zero]) | (refine tree_skip (by rfl) (by rfl) ?_; simp only [Act.put, List.setIfInBounds_toArray, List.set_cons_succ, List.set_cons_zero]))
      refine tree_val _ (by rfl) (by rfl) 40 #[iv (dk - pk), rv (r30, r31)] (fun W hW => by go_simp; (try simp (disch := omega) only [IntWalk.i64_in]); try rfl) (fun W hE hF => by exact HI3.out W) ?_
      simp only [Act.put, List.setIfInBounds_toArray, List.set_cons_succ, List.set_cons_zero]
      repeat (first | (refine tree_det (by rfl) _ (by rfl) (fun W hW => by go_simp; (try simp (disch := omega) only [IntWalk.i64_in]); try rfl) ?_; simp only [Act.put, List.setIfInBounds_toArray, List.set_cons_succ, List.set_cons_zero]) | (refine tree_skip (by rfl) (by rfl) ?_; simp only [Act.put, List.setIfInBounds_toArray, List.set_cons_succ, List.set_cons_zero]))
      intro W18 hE hF
      have hE' : Ext [] W17 W18 := hE
      have hb := hE'.below
      have d1 := (hE'.cell _ _ j1 (by simp)).trans d1
      have d2 := (hE'.cell _ _ j2 (by simp)).trans d2
      have j1 := Nat.lt_of_lt_of_le j1 hE'.size
      have j2 := Nat.lt_of_lt_of_le j2 hE'.size
      have HB18 := Lib.hid (bgo HB17.out hb)
      clear hE hF hE' p0 p1 p2 p3 p4 p5 j3 j4 j5
      have HK18 := Lib.hid (HK17.out.next hb)
      clear hb
      (try clear c0 f0)
      (try clear c1 f1)
      obtain ⟨c0, f0, l0⟩ := cells_of_block HK18.out.blk.2
      obtain ⟨c1, f1, l1⟩ := cells_of_block HK18.out.blk.1
      go_wp2_with fail
      refine wp_region_rg 12 [] none [] (by as_aux_lemma => kernel_rfl) (by as_aux_lemma => kernel_rfl) ?_
      simp only [List.take_succ_cons, List.take_zero, List.drop_succ_cons, List.drop_zero]
      repeat (first | (refine tree_det (by rfl) _ (by rfl) (fun W hW => by go_simp; (try simp (disch := omega) only [IntWalk.i64_in]); try rfl) ?_; simp only [Act.put, List.setIfInBounds_toArray, List.set_cons_succ, List.set_cons_zero]) | (refine tree_skip (by rfl) (by rfl) ?_; simp only [Act.put, List.setIfInBounds_toArray, List.set_cons_succ, List.set_cons_zero]))
      intro W19 hE hF
      have HB19 := Lib.hid (bgo HB18.out (Ext.below (show Ext [] W18 W19 from hE)))
      clear hE hF c0 f0 c1 f1 d1 d2
      go_wp2_with fail
      go_roundw
      case rel => exact ⟨k + 1, by omega, by go_num, by rw [HSU.out], HB19.out⟩
      case measure => simp [intOf]; omega
    · obtain rfl : k = n := by omega
      have hnl : ¬ (k : Int) < X.field.weeders := by rw [HNW.out.1]; omega
      rw [List.take_of_length_le (by rw [HDD.out.2.1]; exact Nat.le_refl _), List.take_of_length_le (by rw [HPL.out]; exact Nat.le_refl _)] at how
      have hrows := truthsF_len HTR.out.rowsT
      have hF := soundF_of HMX.out.2.1.field
      have hr0 := hF.rows0
      have hr1 := hF.rows1
      have hrt := HMX.out.2.1.rate
      obtain ⟨did, hdid⟩ : ∃ d, didT rows (-1) 0 (X.field.rows - 1) = d := ⟨_, rfl⟩
      have HDI := Lib.hid (fun (W : World) (h : IntsAt W (.slice ro rows.length rc) rows) => rDid_any rows (.slice ro rows.length rc) (by omega) (-1) 0 (X.field.rows - 1) (by omega) (by omega) (by omega) W h)
      rw [hdid] at HDI
      have hdc : 0 ≤ did ∧ did ≤ 7 := by
        rw [← hdid, show X.field.rows - 1 = (rows.length : Int) - 1 from by omega, did_count]
        have := List.count_le_length (a := (-1 : Int)) (l := rows)
        omega
      have hds := HDD.out.2.2.2.2.1
      rw [hdid] at hds
      obtain ⟨al, hal⟩ : ∃ al, X.rate * (X.field.rows - did) = al := ⟨_, rfl⟩
      rw [hal] at hds
      have hDb := sumI_bd7 D HDD.out.2.2.1
      have hDl := HDD.out.2.1
      have hab : 0 ≤ al ∧ al ≤ 1050 := by omega
      have HIB := Lib.hid (fun W : World => rIn_any (al - ow) X.box.1 X.box.2 W)
      rw [show inB (al - ow) X.box.1 X.box.2 = true from by
        have := HDD.out.2.2.2.2.2
        unfold inB
        simp
        omega] at HIB
      have HSD := Lib.hid (fun (W : World) (h : SlAt 1 W (.slice uo k uc) k (intCells D)) => zSum_any D (.slice uo k uc) W (IntsAt.of_at h HDD.out.2.1) (fun z hz => by have := HDD.out.2.2.1 z hz; omega) (by omega))
      rw [hds] at HSD
      have hmm : (al == al) = true := by simp
      clear how hrows hF hdid hds hDb hDl hdt hpt hl1 hl2
      go_wp2_with fail
      refine wp_region_rg 14 [] none [(11, Spec.val (iv did))] (by as_aux_lemma => kernel_rfl) (by as_aux_lemma => kernel_rfl) ?_
      simp only [List.take_succ_cons, List.take_zero, List.drop_succ_cons, List.drop_zero]
      repeat (first | (refine tree_det (by rfl) _ (by rfl) (fun W hW => by go_simp; (try simp (disch := omega) only [IntWalk.i64_in]); try rfl) ?_; simp only [Act.put, List.setIfInBounds_toArray, List.set_cons_succ, List.set_cons_zero]) | (refine tree_skip (by rfl) (by rfl) ?_; simp only [Act.put, List.setIfInBounds_toArray, List.set_cons_succ, List.set_cons_zero]))
      refine tree_val _ (by rfl) (by rfl) 73 _ (fun W hW => by go_simp; try rfl) (fun W hE hF => by exact HDI.out W (HAX.out.2.2.1.below (bgo HK17.out.below (Ext.below (show Ext [] W17 W from hE))) (Nat.le_refl _))) ?_
      simp only [Act.put, List.setIfInBounds_toArray, List.set_cons_succ, List.set_cons_zero]
      repeat (first | (refine tree_det (by rfl) _ (by rfl) (fun W hW => by go_simp; (try simp (disch := omega) only [IntWalk.i64_in]); try rfl) ?_; simp only [Act.put, List.setIfInBounds_toArray, List.set_cons_succ, List.set_cons_zero]) | (refine tree_skip (by rfl) (by rfl) ?_; simp only [Act.put, List.setIfInBounds_toArray, List.set_cons_succ, List.set_cons_zero]))
      intro W18 hE hF
      have hb := Ext.below (show Ext [] W17 W18 from hE)
      clear hE hF
      have HK18 := Lib.hid (HK17.out.next hb)
      clear hb
      (try clear c0 f0)
      (try clear c1 f1)
      obtain ⟨c0, f0, l0⟩ := cells_of_block HK18.out.blk.2
      obtain ⟨c1, f1, l1⟩ := cells_of_block HK18.out.blk.1
      go_wp2_with fail
      refine (HSD.out W18 HK18.out.is.2.2.2.2.1).mono ?_
      rintro e W19 ⟨rfl, hb⟩
      have HK19 := Lib.hid (HK18.out.next hb)
      clear hb
      (try clear c0 f0)
      (try clear c1 f1)
      obtain ⟨c0, f0, l0⟩ := cells_of_block HK19.out.blk.2
      obtain ⟨c1, f1, l1⟩ := cells_of_block HK19.out.blk.1
      go_wp2_with fail
      refine (HIB.out W19).mono ?_
      rintro e W20 ⟨rfl, hb⟩
      have HK20 := Lib.hid (HK19.out.next hb)
      clear hb
      (try clear c0 f0)
      (try clear c1 f1)
      obtain ⟨c0, f0, l0⟩ := cells_of_block HK20.out.blk.2
      obtain ⟨c1, f1, l1⟩ := cells_of_block HK20.out.blk.1
      go_wp2_with fail
      refine (awake_any _).mono ?_
      rintro e W21 ⟨rfl, hb⟩
      have HB21 := Lib.hid (bgo HK20.out.below hb)
      clear hb
      go_wp2_with fail
      go_returns
      exact ⟨by simp, bgo HBV.out HB21.out⟩
end Go.Proofs.YtdjgikcnmokjkaaGreat

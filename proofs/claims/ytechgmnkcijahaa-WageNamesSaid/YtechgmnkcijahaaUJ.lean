/-
  Contracts of package wage: ProveSettle, ProveSafe, ProveTruth.
  Contracts of package wage: ProveTruth.
-/
import Derived.WalkKit
import Derived.WalkLawsBesides
import Derived.WalkSpells
import Derived.Outline
import Derived.Handy
import Derived.KernelRfl
import Derived.Lib.Hide
import Derived.Test.YtechgmnkcijahaaUH
namespace Go.Proofs.Ytechgmnkcijahaa
open Go.RowKit Go.RG Go.SL Go.Shelf Cou Go.TB
set_option maxHeartbeats 400000
set_option maxRecDepth 10000

def proveSettleB (l : LedgerD) (rows : List Int) : Bool := decide (faultW l = 0) && settlesLB l rows
theorem ProveSettle_any (l : LedgerD) (tv nv rvv : Value) (rows : List Int) (w : World) (ht : TalliesAt w tv l.field.tallies) (hn : TriplesAt w nv l.notes) (hr : IntsAt w rvv rows) :
    Calls Try.prog 14 #[lv l tv nv, rvv] w (PV (.bool (proveSettleB l rows)) w) := by
  have HC := Lib.hid (CheckLedger_any l tv nv (w.alloc (.cells (lcells l tv nv) 34)) (ht.alloc _) (hn.alloc _))
  have HA := Lib.hid (And.intro ht hr)
  clear ht hn hr
  obtain ⟨q, hq⟩ : ∃ q, faultW l = q := ⟨_, rfl⟩
  rw [hq] at HC
  by_cases hq0 : q = 0
  · subst hq0
    have hF := soundF_of (faultW_sound hq).1.field
    have hw0 := hF.weed0
    have hw3 := hF.weed1
    have HV := Lib.hid (show proveSettleB l rows = settlesLB l rows from by unfold proveSettleB; rw [hq]; simp)
    clear hq hF
    go_enter Try.func14, Try.ntmps14
    go_wp2_with fail
    refine HC.out.mono ?_
    rintro e w1 ⟨rfl, hb⟩
    have hk1 := (hb.block w.heap.size (by simp)).trans (heap_new0 w (.cells (lcells l tv nv) 34))
    have hB1 : Below w.heap.size w w1 := (by repeat (first | exact Below.refl _ _ | assumption | refine bgo ?_ (by assumption) | refine bgoAlloc ?_ _ | refine bgoDrew ?_ | refine bgoSet ?_ (by simp; omega) _))
    have HS := Lib.hid (settles1_any l tv nv rvv rows w1 (HA.out.1.below hB1 (Nat.le_refl _)) (HA.out.2.below hB1 (Nat.le_refl _)) (by omega) (by omega))
    have HB1 := Lib.hid hB1
    obtain ⟨c1, f1, l1⟩ := cells_of_block hk1
    clear hb hB1 hk1
    obtain ⟨s, hs⟩ : ∃ s, settlesLB l rows = s := ⟨_, rfl⟩
    rw [hs] at HS HV
    clear hs
    go_wp2_with fail
    refine HS.out.mono ?_
    rintro e w2 ⟨rfl, hb⟩
    have HB2 := Lib.hid (bgo HB1.out hb)
    clear hb c1 f1 l1
    go_wp2_with fail
    go_returns
    exact ⟨by rw [HV.out]; simp, HB2.out⟩
  · have HV := Lib.hid (show proveSettleB l rows = false from by unfold proveSettleB; rw [hq]; simp [hq0])
    have hqb : (q == 0) = false := by simpa using hq0
    clear hq
    go_enter Try.func14, Try.ntmps14
    go_wp2_with fail
    refine HC.out.mono ?_
    rintro e w1 ⟨rfl, hb⟩
    have HB1 := Lib.hid (show Below w.heap.size w w1 from (by repeat (first | exact Below.refl _ _ | assumption | refine bgo ?_ (by assumption) | refine bgoAlloc ?_ _ | refine bgoDrew ?_ | refine bgoSet ?_ (by simp; omega) _)))
    clear hb
    go_wp2_with fail
    go_returns
    exact ⟨by rw [HV.out]; simp, HB1.out⟩

/-! ### ProveSafe -/
def safeTo (least ps : List Int) (k : Nat) : Bool := (List.range k).all fun i => inB (ps.getD i 0) 0 (least.getD i 0)
theorem safeTo_succ (least ps : List Int) (k : Nat) : safeTo least ps (k + 1) = (safeTo least ps k && inB (ps.getD k 0) 0 (least.getD k 0)) := by
  unfold safeTo; rw [List.range_succ, List.all_append]; simp
theorem safeTo_bad {least ps : List Int} {k n : Nat} (hk : k < n) (h : inB (ps.getD k 0) 0 (least.getD k 0) = false) : safeTo least ps n = false := by
  unfold safeTo
  rw [List.all_eq_false]
  exact ⟨k, List.mem_range.2 hk, by rw [h]; simp⟩
def proveSafeB (l : LedgerD) (ps : List Int) : Bool := decide (askedErr l true = 0) && (decide (ps.length = l.field.weeders.toNat) && safeTo (leastW l) ps l.field.weeders.toNat)

theorem ProveSafe_any (l : LedgerD) (tv nv pv : Value) (ps : List Int) (w : World) (ht : TalliesAt w tv l.field.tallies) (hn : TriplesAt w nv l.notes) (hp : IntsAt w pv ps) :
    Calls Try.prog 13 #[lv l tv nv, pv] w (PV (.bool (proveSafeB l ps)) w) := by
  have HC := Lib.hid (Owed_any l tv nv (w.alloc (.cells (lcells l tv nv) 34)) (ht.alloc _) (hn.alloc _))
  obtain ⟨po, pc, rfl⟩ := hp.open
  have HP := Lib.hid hp
  clear ht hn hp
  go_enter Try.func13, Try.ntmps13
  go_wp2_with fail
  refine HC.out.mono ?_
  rintro e w1 ⟨hb, ⟨hne, rfl⟩ | ⟨h0, u, rfl, hu⟩⟩
  · have HV := Lib.hid (show proveSafeB l ps = false from by unfold proveSafeB; simp [hne])
    obtain ⟨q, hq⟩ : ∃ q, askedErr l true = q := ⟨_, rfl⟩
    rw [hq] at hne ⊢
    have hqb : (q != 0) = true := by simpa using hne
    have HB := Lib.hid (show Below w.heap.size w w1 from (by repeat (first | exact Below.refl _ _ | assumption | refine bgo ?_ (by assumption) | refine bgoAlloc ?_ _ | refine bgoDrew ?_ | refine bgoSet ?_ (by simp; omega) _)))
    clear hb hne hq
    go_wp2_with fail
    go_returns
    exact ⟨by rw [HV.out]; simp, HB.out⟩
  obtain ⟨hS, hpp⟩ := asked_ok h0
  obtain ⟨hl1, hl2⟩ := least_bd hS hpp
  have hbl : (bndL partO l (duesT l)).length = (leastW l).length := by unfold leastW; simp
  have hx := fun (k : Nat) (h : k < (bndL partO l (duesT l)).length) => show (bndL partO l (duesT l))[k].1 = (leastW l).getD k 0 from by unfold leastW; simp [List.getD, h]
  obtain ⟨n, hn⟩ : ∃ n, l.field.weeders.toNat = n := ⟨_, rfl⟩
  have hw3 := (soundF_of hS.field).weed1
  have hn3 : n ≤ 3 := by omega
  have HV := Lib.hid (show proveSafeB l ps = (decide (ps.length = n) && safeTo (leastW l) ps n) from by unfold proveSafeB; rw [h0, hn]; simp)
  rw [hn] at hl1
  rw [hl1] at hbl
  generalize bndL partO l (duesT l) = bs at *
  obtain ⟨uo, uc, rfl⟩ := hu.open
  have HB := Lib.hid (And.intro (show Below w.heap.size w w1 from (by repeat (first | exact Below.refl _ _ | assumption | refine bgo ?_ (by assumption) | refine bgoAlloc ?_ _ | refine bgoDrew ?_ | refine bgoSet ?_ (by simp; omega) _))) (And.intro (show SlAt 2 w1 (.slice uo bs.length uc) bs.length (pairCells bs) from hu) hbl))
  have HX := Lib.hid hx
  obtain ⟨m, hm⟩ : ∃ m, ps.length = m := ⟨_, rfl⟩
  have HM := Lib.hid hm
  have hmb : m ≤ 9223372036854775807 := by rw [← hm]; exact HP.out.len
  rw [hbl]
  rw [hm]
  rw [hm] at HV
  clear hb hu hS hpp hl1 hl2 h0 hn hw3 hx hbl hm
  by_cases hmn : m = n
  case neg =>
    have hne : ((m : Int) != (n : Int)) = true := by simp; omega
    have HV' := Lib.hid (show proveSafeB l ps = false from by rw [HV.out]; simp [hmn])
    clear hmn
    go_wp2_with fail
    go_returns
    exact ⟨by rw [HV'.out]; simp, HB.out.1⟩
  subst hmn
  have hne : ((m : Int) != (m : Int)) = false := by simp
  have HV' := Lib.hid (show proveSafeB l ps = safeTo (leastW l) ps m from by rw [HV.out]; simp)
  go_wp2_with fail
  clear hne
  go_loopw [25] (fun u wr => ∃ k : Nat, k ≤ m ∧ u = .int .i64 k ∧ safeTo (leastW l) ps k = true ∧ Below w1.heap.size w1 wr) (fun u _ => m - (intOf u).toNat)
  case atStart => exact ⟨0, Nat.zero_le _, rfl, rfl, Below.refl _ _⟩
  case round =>
    obtain ⟨k, hk, rfl, hok, hB⟩ := hrel
    by_cases hlt : k < m
    · have hkb : k < bs.length := by have := HB.out.2.2; omega
      obtain ⟨g, off, hv, hg, c1, c2⟩ := PairsAt.cell (HB.out.2.1.below hB (Nat.le_refl _)) hkb
      have hkp : k < ps.length := by have := HM.out; omega
      have hat := (HP.out.below HB.out.1 (Nat.le_refl _)).below hB (Nat.le_refl _)
      obtain ⟨g2, off2, hv2, hg2, c3⟩ := IntsAt.cell hat hkp
      have hxk := HX.out k hkb
      have hsu := safeTo_succ (leastW l) ps k
      rw [hok, Bool.true_and, show ps.getD k 0 = ps[k] from by simp [List.getD, hkp]] at hsu
      have hbad := fun h => safeTo_bad (least := leastW l) (ps := ps) (k := k) (n := m) hlt h
      rw [show ps.getD k 0 = ps[k] from by simp [List.getD, hkp]] at hbad
      generalize (leastW l).getD k 0 = y at *
      generalize bs[k] = r at *
      generalize ps[k] = x at *
      obtain ⟨lo, hi⟩ := r
      simp only at hxk c1 c2
      subst hxk
      have HY := Lib.hid (And.intro hsu (And.intro hbad (bgo HB.out.1 hB)))
      have HBB := Lib.hid hB
      have hltI : (k : Int) < m := by omega
      have hsz := hB.size
      cases hv
      cases hv2
      clear hsu hbad hok hB hat
      go_upto_region 7 with (fail)
      refine gworld fun W5 hW5 => ?_
      have hB5 : Below wr.heap.size wr W5 := by rw [hW5]; exact (by repeat (first | exact Below.refl _ _ | assumption | refine bgo ?_ (by assumption) | refine bgoAlloc ?_ _ | refine bgoDrew ?_ | refine bgoSet ?_ (by simp; omega) _))
      have hk5 : W5.heap[wr.heap.size]? = some (.cells #[iv lo, iv hi] 31 (0, 0)) := by rw [hW5]; exact heap_new0 _ _
      have hc3 := (hB5.cell (p := ⟨g2, off2 + k, none⟩) hg2).trans c3
      have hg5 : g2 < W5.heap.size := Nat.lt_of_lt_of_le hg2 hB5.size
      obtain ⟨d5, _, l5⟩ := cells_of_block hk5
      have HB5 := Lib.hid (bgo HBB.out hB5)
      obtain ⟨s3, hs3⟩ : ∃ s3, wr.heap.size = s3 := ⟨_, rfl⟩
      rw [hs3] at d5 l5 ⊢
      clear hW5 hB5 hk5 c1 c2 c3 hg hg2 hs3 hsz
      refine wp_region_rg 6 [] none [] (by as_aux_lemma => kernel_rfl) (by as_aux_lemma => kernel_rfl) ?_
      simp only [List.take_succ_cons, List.take_zero, List.drop_succ_cons, List.drop_zero]
      repeat (first | (refine tree_det (by rfl) _ (by rfl) (fun W hW => by go_simp; (try simp (disch := omega) only [IntWalk.i64_in]); try rfl) ?_; simp only [Act.put, List.setIfInBounds_toArray, List.set_cons_succ, List.set_cons_zero]) | (refine tree_skip (by rfl) (by rfl) ?_; simp only [Act.put, List.setIfInBounds_toArray, List.set_cons_succ, List.set_cons_zero]))
      intro X hE hF
      have HXB := Lib.hid (bgo HB5.out (Ext.below (show Ext [] W5 X from hE)))
      clear hE hF hc3 d5
      go_wp2_with fail
      refine (gwithin_any x 0 lo X).mono ?_
      rintro e X2 ⟨rfl, hb⟩
      have HX2 := Lib.hid (bgo HXB.out hb)
      clear hb
      obtain ⟨is, his⟩ : ∃ is, inB x 0 lo = is := ⟨_, rfl⟩
      rw [his] at HY ⊢
      clear his
      cases is
      · have HR := Lib.hid (show safeTo (leastW l) ps m = false from HY.out.2.1 rfl)
        go_wp2_with fail
        go_returns
        exact ⟨by rw [HV'.out, HR.out]; simp, bgo HB.out.1 HX2.out⟩
      · go_wp2_with fail
        go_roundw
        case rel => exact ⟨k + 1, by omega, by go_num, HY.out.1, HX2.out⟩
        case measure => simp [intOf]; omega
    · have hkm : k = m := by omega
      rw [hkm] at hok
      have HF := Lib.hid (And.intro hok (bgo HB.out.1 hB))
      clear hok hB
      go_wp2_with fail
      go_returns
      exact ⟨by rw [HV'.out, HF.out.1]; simp, HF.out.2⟩

/-! ### ProveTruth -/
def payTo' (ds ps : List Int) (k : Nat) : Bool := (List.range k).all fun i => inB (ps.getD i 0) 0 (ds.getD i 0)
def noteOk (ps : List Int) (x : Rdg) : Bool := inB (ps.getD x.1.toNat 0) x.2.1 x.2.2
def proveLB (l : LedgerD) (rows ps : List Int) : Bool :=
  decide (faultW l = 0) && (proveTruthB l.field rows && (decide (ps.length = l.field.weeders.toNat) && (safeTo (duesV l.rate rows) ps l.field.weeders.toNat && (inB (sumI ps) l.box.1 l.box.2 && l.notes.all (noteOk ps)))))

theorem prove1_any (ps : List Int) (pv rvv : Value) (x : Rdg) (b0 : Nat) (w : World) (hb : w.heap[b0]? = some (.cells #[rvv, pv] 46 (0, 0))) (hp : IntsAt w pv ps) (h0 : 0 ≤ x.1) (h1 : x.1.toNat < ps.length) :
    Calls Try.prog 38 #[xv x, .pointer (some ⟨b0, 0, none⟩)] w (PV (.bool (noteOk ps x)) w) := by
  obtain ⟨po, pc, rfl⟩ := hp.open
  obtain ⟨g, off, hv, hg, hc⟩ := IntsAt.cell hp h1
  obtain ⟨d0, _, l0⟩ := cells_of_block hb
  have hq : noteOk ps x = inB ps[x.1.toNat] x.2.1 x.2.2 := by unfold noteOk; rw [show ps.getD x.1.toNat 0 = ps[x.1.toNat] from by simp [List.getD, h1]]
  rw [hq]
  obtain ⟨i, hi⟩ : ∃ i : Nat, x.1 = (i : Int) := ⟨x.1.toNat, by omega⟩
  obtain ⟨x0, x1, x2⟩ := x
  simp only at hi
  subst hi
  simp only [Int.toNat_natCast] at hc h1 ⊢
  generalize ps[i] = y at *
  have hiI : (i : Int) < ps.length := by omega
  have hln := hp.len
  subst hv
  have HP := Lib.hid hp
  clear hp hb hq
  go_enter Try.func38, Try.ntmps38
  go_wp2_with fail
  refine wp_region_rg 8 [] none [] (by as_aux_lemma => kernel_rfl) (by as_aux_lemma => kernel_rfl) ?_
  simp only [List.take_succ_cons, List.take_zero, List.drop_succ_cons, List.drop_zero]
  repeat (first | (refine tree_det (by rfl) _ (by rfl) (fun W hW => by go_simp; (try simp (disch := omega) only [IntWalk.i64_in]); try rfl) ?_; simp only [Act.put, List.setIfInBounds_toArray, List.set_cons_succ, List.set_cons_zero]) | (refine tree_skip (by rfl) (by rfl) ?_; simp only [Act.put, List.setIfInBounds_toArray, List.set_cons_succ, List.set_cons_zero]))
  intro X hE hF
  have HX := Lib.hid (show Below w.heap.size w X from bgo (by exact (by repeat (first | exact Below.refl _ _ | assumption | refine bgo ?_ (by assumption) | refine bgoAlloc ?_ _ | refine bgoDrew ?_ | refine bgoSet ?_ (by simp; omega) _))) (Ext.below (show Ext [] _ X from hE)))
  clear hE hF hc d0
  go_wp2_with fail
  refine (ghas_any (x1, x2) y X).mono ?_
  rintro e X2 ⟨rfl, hb⟩
  have HX2 := Lib.hid (bgo HX.out hb)
  clear hb
  go_wp2_with fail
  go_returns
  exact ⟨by simp, HX2.out⟩
end Go.Proofs.Ytechgmnkcijahaa

namespace Go.Proofs.Ytechgmnkcijahaa
open Go.RowKit Go.RG Go.SL Go.Shelf Cou Go.TB
set_option maxHeartbeats 400000
set_option maxRecDepth 10000

set_option maxHeartbeats 4000000 in
theorem ProveTruth_any (l : LedgerD) (tv nv rvv pv : Value) (rows ps : List Int) (w : World) (ht : TalliesAt w tv l.field.tallies) (hn : TriplesAt w nv l.notes) (hr : IntsAt w rvv rows) (hp : IntsAt w pv ps) :
    Calls Try.prog 12 #[lv l tv nv, .agg #[rvv, pv]] w (PV (.bool (proveLB l rows ps)) w) := by
  obtain ⟨ro, rc, rfl⟩ := hr.open
  obtain ⟨po, pc, rfl⟩ := hp.open
  obtain ⟨no, nc, rfl⟩ := hn.open
  have HC := Lib.hid (CheckLedger_any l tv _ ((w.alloc (.cells (lcells l tv (.slice no l.notes.length nc)) 34)).alloc (.cells #[.slice ro rows.length rc, .slice po ps.length pc] 46)) ((ht.alloc _).alloc _) ((hn.alloc _).alloc _))
  have HA := Lib.hid (And.intro ht (And.intro hn (And.intro hr hp)))
  clear ht hn hr hp
  obtain ⟨q, hq⟩ : ∃ q, faultW l = q := ⟨_, rfl⟩
  rw [hq] at HC
  by_cases hq0 : q = 0
  case neg =>
    have HV := Lib.hid (show proveLB l rows ps = false from by unfold proveLB; rw [hq]; simp [hq0])
    have hqb : (q != 0) = true := by simpa using hq0
    clear hq
    go_enter Try.func12, Try.ntmps12
    go_wp2_with fail
    refine HC.out.mono ?_
    rintro e w1 ⟨rfl, hb⟩
    have HB := Lib.hid (show Below w.heap.size w w1 from (by repeat (first | exact Below.refl _ _ | assumption | refine bgo ?_ (by assumption) | refine bgoAlloc ?_ _ | refine bgoDrew ?_ | refine bgoSet ?_ (by simp; omega) _)))
    clear hb
    go_wp2_with fail
    go_returns
    exact ⟨by rw [HV.out]; simp, HB.out⟩
  subst hq0
  have hS := (faultW_sound hq).1
  have hF := soundF_of hS.field
  obtain ⟨n, hn⟩ : ∃ n : Nat, l.field.weeders.toNat = n := ⟨_, rfl⟩
  have hw0 := hF.weed0
  have hw3 := hF.weed1
  have hr7 := hF.rows1
  have hn1 : 1 ≤ n := by omega
  have hn3 : n ≤ 3 := by omega
  obtain ⟨pt, hpt⟩ : ∃ pt, proveTruthB l.field rows = pt := ⟨_, rfl⟩
  have HV := Lib.hid (show proveLB l rows ps = (pt && (decide (ps.length = n) && (safeTo (duesV l.rate rows) ps n && (inB (sumI ps) l.box.1 l.box.2 && l.notes.all (noteOk ps))))) from by unfold proveLB; rw [hq, hpt, hn]; simp)
  have HPT := Lib.hid hpt
  have HS := Lib.hid hS
  have hwn : l.field.weeders = (n : Int) := by omega
  have HN := Lib.hid hwn
  obtain ⟨m, hm⟩ : ∃ m, ps.length = m := ⟨_, rfl⟩
  have HM := Lib.hid hm
  have hml := HA.out.2.2.2.len
  rw [hm] at hml HC HV ⊢
  obtain ⟨nn, hnn⟩ : ∃ nn, l.notes.length = nn := ⟨_, rfl⟩
  have HNN := Lib.hid hnn
  rw [hnn] at HC ⊢
  clear hq hS hF hn hpt hm hwn hw0 hw3 hnn
  go_enter Try.func12, Try.ntmps12
  go_wp2_with fail
  refine HC.out.mono ?_
  rintro e w1 ⟨rfl, hb⟩
  have hk0 := (hb.block w.heap.size (by simp; omega)).trans ((Below.heap_alloc _ _ _ (by simp)).trans (heap_new0 w (.cells (lcells l tv (.slice no nn nc)) 34)))
  have hk1 := (hb.block (w.heap.size + 1) (by simp)).trans (heap_new1 w (.cells (lcells l tv (.slice no nn nc)) 34) (.cells #[.slice ro rows.length rc, .slice po m pc] 46))
  have hB1 : Below w.heap.size w w1 := (by repeat (first | exact Below.refl _ _ | assumption | refine bgo ?_ (by assumption) | refine bgoAlloc ?_ _ | refine bgoDrew ?_ | refine bgoSet ?_ (by simp; omega) _))
  have HP := Lib.hid (HPT.out ▸ wProveTruth_any l.field tv (.slice ro rows.length rc) rows w1 (HA.out.1.below hB1 (Nat.le_refl _)) (HA.out.2.2.1.below hB1 (Nat.le_refl _)))
  have HB1 := Lib.hid (And.intro hB1 (And.intro hk0 hk1))
  obtain ⟨c0, f0, l0⟩ := cells_of_block hk0
  obtain ⟨c1, f1, l1⟩ := cells_of_block hk1
  clear hb hk0 hk1 hB1
  go_wp2_with fail
  refine HP.out.mono ?_
  rintro e w2 ⟨rfl, hb⟩
  have hk0 := (hb.block _ l0).trans HB1.out.2.1
  have hk1 := (hb.block _ l1).trans HB1.out.2.2
  have HB2 := Lib.hid (And.intro (bgo HB1.out.1 hb) (And.intro hk0 hk1))
  clear hb c0 f0 c1 f1
  obtain ⟨c0, f0, l0⟩ := cells_of_block hk0
  obtain ⟨c1, f1, l1⟩ := cells_of_block hk1
  clear hk0 hk1
  cases pt
  · have HV' := Lib.hid (show proveLB l rows ps = false from by rw [HV.out]; simp)
    go_wp2_with fail
    go_returns
    exact ⟨by rw [HV'.out]; simp, HB2.out.1⟩
  by_cases hmn : m = n
  case neg =>
    have hne : ((m : Int) != l.field.weeders) = true := by rw [HN.out]; simp; omega
    have HV' := Lib.hid (show proveLB l rows ps = false from by rw [HV.out]; simp [hmn])
    clear hmn
    go_wp2_with fail
    go_returns
    exact ⟨by rw [HV'.out]; simp, HB2.out.1⟩
  subst hmn
  have hne : ((m : Int) != l.field.weeders) = false := by rw [HN.out]; simp
  have HV' := Lib.hid (show proveLB l rows ps = (safeTo (duesV l.rate rows) ps m && (inB (sumI ps) l.box.1 l.box.2 && l.notes.all (noteOk ps))) from by rw [HV.out]; simp)
  obtain ⟨_, hlen, hxb, _⟩ := proveTruth_bd HPT.out
  have hdues := dues_any l tv (.slice no nn nc) _ rows w2 (HA.out.2.2.1.below HB2.out.1 (Nat.le_refl _)) (by have := HS.out.rate; omega) (by have := HS.out.rate; omega) (by omega) (fun x hx' => by have := hxb x hx'; have := HN.out; omega)
  obtain ⟨y0, y1, y2, hys⟩ := three_of (duesV_len l.rate rows)
  have hyb := fun i hi => duesV_bd (rate := l.rate) (by have := HS.out.rate; omega) (by have := HS.out.rate; omega) rows (by omega) i hi
  rw [hys] at hdues hyb
  have hdues' : Calls Try.prog 34 #[lv l tv (.slice no nn nc), .slice ro rows.length rc] w2 (fun e w' => e = .returned (.agg #[iv y0, iv y1, iv y2]) ∧ Below w2.heap.size w2 w' ∧ w2.heap.size < w'.heap.size) := hdues
  have HDU := Lib.hid hdues'
  have HY := Lib.hid (And.intro hys hyb)
  clear hdues hdues' hys hyb hlen hxb
  go_wp2_with fail
  refine HDU.out.mono ?_
  rintro e w3 ⟨rfl, hb, _⟩
  have hk0 := (hb.block _ l0).trans HB2.out.2.1
  have hk1 := (hb.block _ l1).trans HB2.out.2.2
  have HB3 := Lib.hid (And.intro (bgo HB2.out.1 hb) (And.intro hk0 hk1))
  clear hb hk0 hk1 c0 f0 c1 f1 hne
  obtain ⟨c0, f0, l0⟩ := cells_of_block HB3.out.2.1
  obtain ⟨c1, f1, l1⟩ := cells_of_block HB3.out.2.2
  go_upto_region 4 with (fail)
  refine gworld fun w4 hw4 => ?_
  have hB4 : Below w3.heap.size w3 w4 := by rw [hw4]; exact (by repeat (first | exact Below.refl _ _ | assumption | refine bgo ?_ (by assumption) | refine bgoAlloc ?_ _ | refine bgoDrew ?_ | refine bgoSet ?_ (by simp; omega) _))
  have hk4 : w4.heap[w3.heap.size]? = some (.cells #[iv y0, iv y1, iv y2] 79 (0, 0)) := by rw [hw4]; exact heap_new0 _ _
  have HB4 := Lib.hid (And.intro (bgo HB3.out.1 hB4) (And.intro ((hB4.block _ l0).trans HB3.out.2.1) (And.intro ((hB4.block _ l1).trans HB3.out.2.2) hk4)))
  obtain ⟨s3, hs3⟩ : ∃ s3, w3.heap.size = s3 := ⟨_, rfl⟩
  rw [hs3] at HB4 ⊢
  have hs03 : w.heap.size + 1 < s3 := by omega
  clear hw4 hB4 hk4 c0 f0 c1 f1 hs3 l0 l1
  obtain ⟨c1, f1, l1⟩ := cells_of_block HB4.out.2.2.1
  go_wp2_with fail
  clear c1 f1
  go_loopw [35] (fun u wr => ∃ k : Nat, k ≤ m ∧ u = .int .i64 k ∧ safeTo [y0, y1, y2] ps k = true ∧ Below w4.heap.size w4 wr) (fun u _ => m - (intOf u).toNat)
  case atStart => exact ⟨0, Nat.zero_le _, rfl, rfl, Below.refl _ _⟩
  case round =>
    obtain ⟨k, hk, rfl, hok, hB⟩ := hrel
    by_cases hlt : k < m
    · have hk3 : k < 3 := by omega
      have hkp : k < ps.length := by have := HM.out; omega
      have hat := (HA.out.2.2.2.below HB4.out.1 (Nat.le_refl _)).below hB (Nat.le_refl _)
      obtain ⟨g2, off2, hv2, hg2, c3⟩ := IntsAt.cell hat hkp
      have hkd : k < ([y0, y1, y2] : List Int).length := by simpa using hk3
      have hcd := cell_of_ints (show wr.heap[s3]? = some (.cells (intCells [y0, y1, y2]).toArray 79 (0, 0)) from (hB.block _ (Array.getElem?_eq_some_iff.1 HB4.out.2.2.2).1).trans HB4.out.2.2.2) hkd
      have hls := World.block_lt_of_cell? wr _ hcd
      have hsu := safeTo_succ [y0, y1, y2] ps k
      rw [hok, Bool.true_and, show ps.getD k 0 = ps[k] from by simp [List.getD, hkp], show ([y0, y1, y2] : List Int).getD k 0 = [y0, y1, y2][k] from by rw [List.getD_eq_getElem?_getD, List.getElem?_eq_getElem hkd]; rfl] at hsu
      have hbad := fun h => safeTo_bad (least := [y0, y1, y2]) (ps := ps) (k := k) (n := m) hlt h
      rw [show ps.getD k 0 = ps[k] from by simp [List.getD, hkp], show ([y0, y1, y2] : List Int).getD k 0 = [y0, y1, y2][k] from by rw [List.getD_eq_getElem?_getD, List.getElem?_eq_getElem hkd]; rfl] at hbad
      generalize [y0, y1, y2][k] = y at *
      generalize ps[k] = x at *
      have HZ := Lib.hid (And.intro hsu hbad)
      have HBB := Lib.hid hB
      have hltI : (k : Int) < m := by omega
      have hk3I : (k : Int) < 3 := by omega
      cases hv2
      clear hsu hbad hok hB hat
      go_wp2_with fail
      refine (gwithin_any x 0 y wr).mono ?_
      rintro e X2 ⟨rfl, hb⟩
      have HX2 := Lib.hid (bgo HBB.out hb)
      clear hb
      obtain ⟨is, his⟩ : ∃ is, inB x 0 y = is := ⟨_, rfl⟩
      rw [his] at HZ ⊢
      clear his
      cases is
      · have HR := Lib.hid (show proveLB l rows ps = false from by rw [HV'.out, HY.out.1, HZ.out.2 rfl]; rfl)
        go_wp2_with fail
        go_returns
        exact ⟨by rw [HR.out]; simp, bgo HB4.out.1 HX2.out⟩
      · go_wp2_with fail
        go_roundw
        case rel => exact ⟨k + 1, by omega, by go_num, HZ.out.1, HX2.out⟩
        case measure => simp [intOf]; omega
    · have hkm : k = m := by omega
      rw [hkm] at hok
      have hk0 := (hB.block _ (by omega)).trans HB4.out.2.1
      have hk1 := (hB.block _ (by omega)).trans HB4.out.2.2.1
      have hBw := bgo HB4.out.1 hB
      have hat := HA.out.2.2.2.below hBw (Nat.le_refl _)
      have hnt := HA.out.2.1.below hBw (Nat.le_refl _)
      have hall : ∀ i, i < m → 0 ≤ ps.getD i 0 ∧ ps.getD i 0 ≤ 350 := fun i hi => by
        unfold safeTo at hok
        have := List.all_eq_true.1 hok i (List.mem_range.2 hi)
        unfold inB at this
        simp only [Bool.and_eq_true, decide_eq_true_eq] at this
        have := HY.out.2 i (by omega)
        omega
      have HSUM := Lib.hid (fun (W : World) (hb : Below wr.heap.size wr W) => sum_any ps (.slice po ps.length pc) W (hat.below hb (Nat.le_refl _)) (fun z hz => by
        obtain ⟨i, hi, hie⟩ := List.getElem_of_mem hz
        have := hall i (by have := HM.out; omega)
        rw [show ps.getD i 0 = z from by rw [← hie]; simp [List.getD, hi]] at this
        omega) (by have := HM.out; omega))
      have HALL := Lib.hid (fun (W : World) (hb : Below wr.heap.size wr W) => allN_pure l.notes (.slice no l.notes.length nc) 38 #[] #[.pointer (some ⟨w.heap.size + 1, 0, none⟩)] (noteOk ps) W (hnt.below hb (Nat.le_refl _)) (enters_of Try.func38 (by kernel_rfl) rfl) (fun x hx W' hb' => by
        have hn := HS.out.notes x hx
        exact prove1_any ps (.slice po m pc) (.slice ro rows.length rc) x (w.heap.size + 1) W' ((hb'.block _ (by have := hb.size; have := (Array.getElem?_eq_some_iff.1 hk1).1; omega)).trans ((hb.block _ (Array.getElem?_eq_some_iff.1 hk1).1).trans hk1)) (by have h2 := (hat.below hb (Nat.le_refl _)).below hb' (Nat.le_refl _); rw [HM.out] at h2; unfold IntsAt; rw [HM.out]; exact h2) (by omega) (by have := HM.out; have := HN.out; omega)))
      rw [HM.out] at HSUM
      rw [HNN.out] at HALL
      have HR := Lib.hid (show proveLB l rows ps = (inB (sumI ps) l.box.1 l.box.2 && l.notes.all (noteOk ps)) from by rw [HV'.out, HY.out.1, hok]; rfl)
      have HX := Lib.hid hBw
      obtain ⟨c0, f0, l0⟩ := cells_of_block hk0
      obtain ⟨c1, f1, l1⟩ := cells_of_block hk1
      obtain ⟨sm, hsm⟩ : ∃ sm, sumI ps = sm := ⟨_, rfl⟩
      obtain ⟨al, hal⟩ : ∃ al, l.notes.all (noteOk ps) = al := ⟨_, rfl⟩
      obtain ⟨bx, hbx⟩ : ∃ bx, inB sm l.box.1 l.box.2 = bx := ⟨_, rfl⟩
      rw [hsm] at HSUM HR
      rw [hal] at HALL HR
      rw [hbx] at HR
      have HBX := Lib.hid (hbx ▸ ghas_any l.box sm)
      clear hk0 hk1 hBw hat hnt hall hok hB hkm hsm hal hbx
      go_wp2_with fail
      cases bx
      · skip
        refine wp_region_rg 10 [] none [(4, Spec.val (iv sm)), (5, Spec.val (.bool false))] (by as_aux_lemma => kernel_rfl) (by as_aux_lemma => kernel_rfl) ?_
        simp only [List.take_succ_cons, List.take_zero, List.drop_succ_cons, List.drop_zero]
        repeat (first | (refine tree_det (by rfl) _ (by rfl) (fun W hW => by go_simp; (try simp (disch := omega) only [IntWalk.i64_in]); try rfl) ?_; simp only [Act.put, List.setIfInBounds_toArray, List.set_cons_succ, List.set_cons_zero]) | (refine tree_skip (by rfl) (by rfl) ?_; simp only [Act.put, List.setIfInBounds_toArray, List.set_cons_succ, List.set_cons_zero]))
        refine tree_val _ (by rfl) (by rfl) 26 #[.slice po m pc] (fun W hW => by go_simp; try rfl) (fun W hE hF => by exact HSUM.out W (Ext.below (show Ext [] wr W from hE))) ?_
        simp only [Act.put, List.setIfInBounds_toArray, List.set_cons_succ, List.set_cons_zero]
        repeat (first | (refine tree_det (by rfl) _ (by rfl) (fun W hW => by go_simp; (try simp (disch := omega) only [IntWalk.i64_in]); try rfl) ?_; simp only [Act.put, List.setIfInBounds_toArray, List.set_cons_succ, List.set_cons_zero]) | (refine tree_skip (by rfl) (by rfl) ?_; simp only [Act.put, List.setIfInBounds_toArray, List.set_cons_succ, List.set_cons_zero]))
        refine tree_val _ (by rfl) (by rfl) 36 #[rv l.box, iv sm] (fun W hW => by go_simp; try rfl) (fun W hE hF => by exact HBX.out W) ?_
        simp only [Act.put, List.setIfInBounds_toArray, List.set_cons_succ, List.set_cons_zero]
        repeat (first | (refine tree_det (by rfl) _ (by rfl) (fun W hW => by go_simp; (try simp (disch := omega) only [IntWalk.i64_in]); try rfl) ?_; simp only [Act.put, List.setIfInBounds_toArray, List.set_cons_succ, List.set_cons_zero]) | (refine tree_skip (by rfl) (by rfl) ?_; simp only [Act.put, List.setIfInBounds_toArray, List.set_cons_succ, List.set_cons_zero]))
        intro X hE hF
        have HXX := Lib.hid (Ext.below (show Ext [] wr X from hE))
        clear hE hF c0 f0 c1 f1
        go_wp2_with fail
        go_returns
        exact ⟨by rw [HR.out]; simp, bgo HX.out HXX.out⟩
      · skip
        refine wp_region_rg 10 [] none [(4, Spec.val (iv sm)), (5, Spec.val (.bool true))] (by as_aux_lemma => kernel_rfl) (by as_aux_lemma => kernel_rfl) ?_
        simp only [List.take_succ_cons, List.take_zero, List.drop_succ_cons, List.drop_zero]
        repeat (first | (refine tree_det (by rfl) _ (by rfl) (fun W hW => by go_simp; (try simp (disch := omega) only [IntWalk.i64_in]); try rfl) ?_; simp only [Act.put, List.setIfInBounds_toArray, List.set_cons_succ, List.set_cons_zero]) | (refine tree_skip (by rfl) (by rfl) ?_; simp only [Act.put, List.setIfInBounds_toArray, List.set_cons_succ, List.set_cons_zero]))
        refine tree_val _ (by rfl) (by rfl) 26 #[.slice po m pc] (fun W hW => by go_simp; try rfl) (fun W hE hF => by exact HSUM.out W (Ext.below (show Ext [] wr W from hE))) ?_
        simp only [Act.put, List.setIfInBounds_toArray, List.set_cons_succ, List.set_cons_zero]
        repeat (first | (refine tree_det (by rfl) _ (by rfl) (fun W hW => by go_simp; (try simp (disch := omega) only [IntWalk.i64_in]); try rfl) ?_; simp only [Act.put, List.setIfInBounds_toArray, List.set_cons_succ, List.set_cons_zero]) | (refine tree_skip (by rfl) (by rfl) ?_; simp only [Act.put, List.setIfInBounds_toArray, List.set_cons_succ, List.set_cons_zero]))
        refine tree_val _ (by rfl) (by rfl) 36 #[rv l.box, iv sm] (fun W hW => by go_simp; try rfl) (fun W hE hF => by exact HBX.out W) ?_
        simp only [Act.put, List.setIfInBounds_toArray, List.set_cons_succ, List.set_cons_zero]
        repeat (first | (refine tree_det (by rfl) _ (by rfl) (fun W hW => by go_simp; (try simp (disch := omega) only [IntWalk.i64_in]); try rfl) ?_; simp only [Act.put, List.setIfInBounds_toArray, List.set_cons_succ, List.set_cons_zero]) | (refine tree_skip (by rfl) (by rfl) ?_; simp only [Act.put, List.setIfInBounds_toArray, List.set_cons_succ, List.set_cons_zero]))
        intro X hE hF
        have HXX := Lib.hid (Ext.below (show Ext [] wr X from hE))
        clear hE hF c0 f0 c1 f1
        go_wp2_with fail
        refine (HALL.out X HXX.out).mono ?_
        rintro e X2 ⟨rfl, hb⟩
        have HX2 := Lib.hid (bgo HXX.out hb)
        clear hb
        go_wp2_with fail
        go_returns
        exact ⟨by rw [HR.out]; simp, bgo HX.out HX2.out⟩
end Go.Proofs.Ytechgmnkcijahaa

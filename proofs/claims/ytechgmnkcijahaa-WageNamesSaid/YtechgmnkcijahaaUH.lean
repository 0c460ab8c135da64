/-
  Contracts of package wage: Safe.
  Contracts of package wage: Share.
-/
import Derived.WalkKit
import Derived.WalkLawsBesides
import Derived.WalkSpells
import Derived.Outline
import Derived.Handy
import Derived.KernelRfl
import Derived.Lib.Hide
import Derived.Test.YtechgmnkcijahaaUA
import Derived.Test.YtechgmnkcijahaaUD
import Derived.Test.YtechgmnkcijahaaVA
namespace Go.Proofs.Ytechgmnkcijahaa
open Go.RowKit Go.RG Go.SL Go.Shelf Cou Go.TB
set_option maxHeartbeats 400000
set_option maxRecDepth 10000

def leastW (l : LedgerD) : List Int := (bndL partO l (duesT l)).map (·.1)
def safeV (l : LedgerD) (of : Int) : List Int := if sumI (leastW l) ≤ of then leastW l else shareL of (leastW l)

theorem asked_ok {l : LedgerD} (h : askedErr l true = 0) : SoundL l ∧ ∃ d ∈ duesT l, canPay l [] d = true := by
  obtain ⟨hS, _, _, hp⟩ := asked_sound h
  unfold possibleL at hp
  rw [List.any_eq_true] at hp
  exact ⟨hS, hp⟩

theorem least_len {l : LedgerD} (hS : SoundL l) (hp : ∃ d ∈ duesT l, canPay l [] d = true) (p : Int → Rng → Rng) : (bndL p l (duesT l)).length = l.field.weeders.toNat := by
  obtain ⟨d, hd, hc⟩ := hp
  have hw := (soundF_of hS.field).weed0
  rcases bndTo_hull p l (duesT l) (i := 0) (by omega) (duesT l).length (Nat.le_refl _) with ⟨_, h2⟩ | ⟨h1, _⟩
  · rw [List.take_length] at h2; rw [h2 d hd] at hc; cases hc
  · exact h1
theorem bnd_hull {l : LedgerD} (hp : ∃ d ∈ duesT l, canPay l [] d = true) (p : Int → Rng → Rng) {i : Nat} (hi : i < l.field.weeders.toNat) :
    HullOf (fun y => ∃ d ∈ duesT l, canPay l [] d = true ∧ y = p (d.getD i 0) ((paidL l [] d).getD i (0, 0))) ((bndL p l (duesT l)).getD i (0, 0)) := by
  obtain ⟨d, hd, hc⟩ := hp
  rcases bndTo_hull p l (duesT l) hi (duesT l).length (Nat.le_refl _) with ⟨_, h2⟩ | ⟨_, h1⟩
  · rw [List.take_length] at h2; rw [h2 d hd] at hc; cases hc
  · rw [List.take_length] at h1; exact h1

/-- What can have been paid is at most what is due. -/
theorem paid_le {l : LedgerD} (hS : SoundL l) {d : List Int} (hd : d ∈ duesT l) {i : Nat} (hi : i < l.field.weeders.toNat) : ((paidL l [] d).getD i (0, 0)).2 ≤ d.getD i 0 := by
  have hF := soundF_of hS.field
  have := hF.weed1
  have hb := duesT_bd hS hd i (by omega)
  have hk := known_bd hS [] i hb.1 (by omega)
  rw [paidL_get l [] d hi]
  unfold bothR
  simp only
  omega

theorem least_bd {l : LedgerD} (hS : SoundL l) (hp : ∃ d ∈ duesT l, canPay l [] d = true) : (leastW l).length = l.field.weeders.toNat ∧ ∀ x ∈ leastW l, 0 ≤ x ∧ x ≤ 350 := by
  have hl := least_len hS hp partO
  refine ⟨by unfold leastW; rw [List.length_map, hl], fun x hx => ?_⟩
  unfold leastW at hx
  obtain ⟨r, hr, rfl⟩ := List.mem_map.1 hx
  obtain ⟨i, hi, hie⟩ := List.getElem_of_mem hr
  rw [hl] at hi
  have hh := bnd_hull hp partO hi
  rw [show (bndL partO l (duesT l)).getD i (0, 0) = r from by rw [← hie]; simp [List.getD, hl, hi]] at hh
  obtain ⟨y, ⟨d, hd, hc, rfl⟩, hy⟩ := hh.low.1
  have h1 := paid_le hS hd hi
  have h2 := paidL_bd hS hd hc hi
  have hF := soundF_of hS.field
  have h3 := duesT_bd hS hd i (by have := hF.weed1; omega)
  unfold partO at hy
  simp only at hy
  omega

def SafePost (l : LedgerD) (of : Int) (w : World) (e : Ending) (w' : World) : Prop :=
  Below w.heap.size w w' ∧ ((askedErr l (inB of 0 2000) ≠ 0 ∧ e = .returned (.tuple #[.slice none 0 0, iv (askedErr l (inB of 0 2000))])) ∨
    (askedErr l (inB of 0 2000) = 0 ∧ ∃ u, e = .returned (.tuple #[u, iv 0]) ∧ IntsAt w' u (safeV l of)))

theorem Safe_any (l : LedgerD) (tv nv : Value) (of : Int) (w : World) (ht : TalliesAt w tv l.field.tallies) (hn : TriplesAt w nv l.notes) :
    Calls Try.prog 6 #[lv l tv nv, iv of] w (SafePost l of w) := by
  have HASK := Lib.hid (fun (W : World) (hb : Below (w.heap.size + 1) (w.alloc (.cells (lcells l tv nv) 34)) W) => asked_any l tv nv (inB of 0 2000) W ((ht.alloc _).below hb (by simp)) ((hn.alloc _).below hb (by simp)))
  rw [show w.heap.size + 1 = (w.alloc (.cells (lcells l tv nv) 34)).heap.size from by simp] at HASK
  clear ht hn
  obtain ⟨q, hq⟩ : ∃ q, askedErr l (inB of 0 2000) = q := ⟨_, rfl⟩
  have HQ := Lib.hid hq
  by_cases hq0 : q = 0
  case neg =>
    have hqb : (q != 0) = true := by simpa using hq0
    have HQ0 := Lib.hid hq0
    clear hq hq0
    go_enter Try.func6, Try.ntmps6
    go_wp2_with fail
    refine wp_region_rg 8 [] none [(2, Spec.val (.bool (inB of 0 2000))), (3, Spec.val (.tuple #[.pointer none, iv q]))] (by as_aux_lemma => kernel_rfl) (by as_aux_lemma => kernel_rfl) ?_
    simp only [List.take_succ_cons, List.take_zero, List.drop_succ_cons, List.drop_zero]
    repeat (first | (refine tree_det (by rfl) _ (by rfl) (fun W hW => by go_simp; (try simp (disch := omega) only [IntWalk.i64_in]); try rfl) ?_; simp only [Act.put, List.setIfInBounds_toArray, List.set_cons_succ, List.set_cons_zero]) | (refine tree_skip (by rfl) (by rfl) ?_; simp only [Act.put, List.setIfInBounds_toArray, List.set_cons_succ, List.set_cons_zero]))
    refine tree_val _ (by rfl) (by rfl) 23 _ (fun W hW => by go_simp; try rfl) (fun W hE hF => by exact money_any of W) ?_
    simp only [Act.put, List.setIfInBounds_toArray, List.set_cons_succ, List.set_cons_zero]
    repeat (first | (refine tree_det (by rfl) _ (by rfl) (fun W hW => by go_simp; (try simp (disch := omega) only [IntWalk.i64_in]); try rfl) ?_; simp only [Act.put, List.setIfInBounds_toArray, List.set_cons_succ, List.set_cons_zero]) | (refine tree_skip (by rfl) (by rfl) ?_; simp only [Act.put, List.setIfInBounds_toArray, List.set_cons_succ, List.set_cons_zero]))
    refine tree_val _ (by rfl) (by rfl) 22 #[lv l tv nv, .bool (inB of 0 2000)] (fun W hW => by go_simp; try rfl) (fun W hE hF => ?_) ?_
    · refine (HASK.out W (Ext.below (show Ext [] _ W from hE))).mono ?_
      rintro e W' ⟨hb, ⟨_, rfl⟩ | ⟨h0, _⟩⟩
      · exact ⟨by rw [HQ.out], hb⟩
      · exact absurd (HQ.out.symm.trans h0) HQ0.out
    simp only [Act.put, List.setIfInBounds_toArray, List.set_cons_succ, List.set_cons_zero]
    repeat (first | (refine tree_det (by rfl) _ (by rfl) (fun W hW => by go_simp; (try simp (disch := omega) only [IntWalk.i64_in]); try rfl) ?_; simp only [Act.put, List.setIfInBounds_toArray, List.set_cons_succ, List.set_cons_zero]) | (refine tree_skip (by rfl) (by rfl) ?_; simp only [Act.put, List.setIfInBounds_toArray, List.set_cons_succ, List.set_cons_zero]))
    intro W1 hE hF
    have HB1 := Lib.hid (show Below w.heap.size w W1 from bgo (bgoAlloc (Below.refl _ _) _) (Ext.below (show Ext [] _ W1 from hE)))
    clear hE hF
    go_wp2_with fail
    go_returns
    exact ⟨HB1.out, .inl ⟨by rw [HQ.out]; exact HQ0.out, by rw [HQ.out]; simp⟩⟩
  subst hq0
  clear hq
  go_enter Try.func6, Try.ntmps6
  go_wp2_with fail
  refine wp_region_rg 8 [] none [(2, Spec.val (.bool (inB of 0 2000))), (3, ⟨fun _ v => ∃ wb : Nat, v = .tuple #[.pointer (some ⟨wb, 0, none⟩), iv 0], fun _ v Wx => ∃ (wb mb : Nat) (v' : Value), v = .tuple #[.pointer (some ⟨wb, 0, none⟩), iv 0] ∧ w.heap.size < wb ∧ w.heap.size < mb ∧ LwKn Wx wb mb l tv nv v' []⟩)] (by as_aux_lemma => kernel_rfl) (by as_aux_lemma => kernel_rfl) ?_
  simp only [List.take_succ_cons, List.take_zero, List.drop_succ_cons, List.drop_zero]
  repeat (first | (refine tree_det (by rfl) _ (by rfl) (fun W hW => by go_simp; (try simp (disch := omega) only [IntWalk.i64_in]); try rfl) ?_; simp only [Act.put, List.setIfInBounds_toArray, List.set_cons_succ, List.set_cons_zero]) | (refine tree_skip (by rfl) (by rfl) ?_; simp only [Act.put, List.setIfInBounds_toArray, List.set_cons_succ, List.set_cons_zero]))
  refine tree_val _ (by rfl) (by rfl) 23 _ (fun W hW => by go_simp; try rfl) (fun W hE hF => by exact money_any of W) ?_
  simp only [Act.put, List.setIfInBounds_toArray, List.set_cons_succ, List.set_cons_zero]
  repeat (first | (refine tree_det (by rfl) _ (by rfl) (fun W hW => by go_simp; (try simp (disch := omega) only [IntWalk.i64_in]); try rfl) ?_; simp only [Act.put, List.setIfInBounds_toArray, List.set_cons_succ, List.set_cons_zero]) | (refine tree_skip (by rfl) (by rfl) ?_; simp only [Act.put, List.setIfInBounds_toArray, List.set_cons_succ, List.set_cons_zero]))
  refine tree_some _ (by rfl) (by rfl) (by exact ⟨_, 0, rfl⟩) (fun Wa hE hF => ?_) (fun v Wa Wb ho hE => ?_) (fun v hv => ?_)
  · have hE' : Ext [] _ Wa := hE
    refine does_enter 22 #[lv l tv nv, .bool (inB of 0 2000)] (by go_simp; try rfl) ?_
    refine (HASK.out Wa hE'.below).mono ?_
    rintro e W' ⟨hb, ⟨hne, _⟩ | ⟨_, wb, mb, v', rfl, hwb, hmb, hkn⟩⟩
    · exact absurd HQ.out hne
    have hsz := hE'.size
    simp only [World.size_alloc] at hsz
    exact ⟨_, rfl, ⟨wb, rfl⟩, ⟨wb, mb, v', rfl, by omega, by omega, hkn⟩, Ext.of_below hb⟩
  · obtain ⟨wb, mb, v', h1, h2, h3, h4⟩ := ho
    exact ⟨wb, mb, v', h1, h2, h3, h4.below (Ext.below (show Ext [] Wa Wb from hE)) (Nat.le_refl _)⟩
  obtain ⟨wb, rfl⟩ := hv
  simp only [Act.put, List.setIfInBounds_toArray, List.set_cons_succ, List.set_cons_zero]
  repeat (first | (refine tree_det (by rfl) _ (by rfl) (fun W hW => by go_simp; (try simp (disch := omega) only [IntWalk.i64_in]); try rfl) ?_; simp only [Act.put, List.setIfInBounds_toArray, List.set_cons_succ, List.set_cons_zero]) | (refine tree_skip (by rfl) (by rfl) ?_; simp only [Act.put, List.setIfInBounds_toArray, List.set_cons_succ, List.set_cons_zero]))
  intro W1 hE hF
  obtain ⟨wb', mb, v, he, hwb, hmb, hkn⟩ := hF _ (List.Mem.head _)
  cases he
  have HB1 := Lib.hid (And.intro (show Below w.heap.size w W1 from bgo (bgoAlloc (Below.refl _ _) _) (Ext.below (show Ext [] _ W1 from hE))) (And.intro (((show Ext [] (w.alloc (.cells (lcells l tv nv) 34)) W1 from hE).block w.heap.size (by simp) (by simp)).trans (heap_new0 w (.cells (lcells l tv nv) 34))) hkn))
  clear hE hF
  have hfine := (asked_sound HQ.out).2.2.1
  have hok := asked_ok (l := l) (hfine ▸ HQ.out)
  obtain ⟨hS, hp⟩ := hok
  have HBN := Lib.hid (bounds_any hS 24 partO W1 HB1.out.2.2 (enters_of Try.func24 (by kernel_rfl) rfl) (fun d r W h => owed_any d r W h))
  obtain ⟨hl1, hl2⟩ := least_bd hS hp
  have hw3 := (soundF_of hS.field).weed1
  have hl3 : (leastW l).length ≤ 3 := by omega
  have hbl : (bndL partO l (duesT l)).length = (leastW l).length := by unfold leastW; simp
  have HL := Lib.hid (And.intro hl2 (show ∀ (k : Nat) (h : k < (bndL partO l (duesT l)).length), (bndL partO l (duesT l))[k].1 = (leastW l)[k]'(by rw [← hbl]; exact h) from fun k h => by unfold leastW; simp))
  have HSV := Lib.hid (show safeV l of = if sumI (leastW l) ≤ of then leastW l else shareL of (leastW l) from rfl)
  have HOF := Lib.hid (show 0 ≤ of ∧ of ≤ 2000 from by have := hfine; unfold inB at this; simpa using this)
  clear hfine hS hp hl1 hl2 hw3 hwb hmb hkn
  go_wp2_with fail
  refine HBN.out.mono ?_
  rintro e W2 ⟨u, rfl, hu, hb⟩
  obtain ⟨uo, uc, rfl⟩ := owns_slice hu
  have hB2 := bgo HB1.out.1 hb
  have HU := Lib.hid (And.intro hB2 (SlAt.of_owns hu))
  clear hu hb hB2
  obtain ⟨n, hn⟩ : ∃ n, (leastW l).length = n := ⟨_, rfl⟩
  rw [hn] at hl3
  rw [hn] at hbl
  rw [hbl]
  have HN := Lib.hid (And.intro hn hbl)
  clear hn hbl
  obtain ⟨ls, hls⟩ : ∃ ls, leastW l = ls := ⟨_, rfl⟩
  rw [hls] at HSV
  simp only [hls] at HL HN
  go_wp2_with fail
  go_loopw [8, 25] (fun v8 u wr => ∃ k : Nat, k ≤ n ∧ u = .int .i64 k ∧ (∃ oo oc, v8 = .slice oo k oc ∧ wr.ownsRow W2.heap.size 3 1 (.slice oo k oc) k (intCells (ls.take k))) ∧ Below W2.heap.size W2 wr) (fun _ u _ => n - (intOf u).toNat)
  case atStart => exact ⟨0, Nat.zero_le _, rfl, ⟨none, 0, rfl, ⟨rfl, .inl ⟨rfl, rfl⟩⟩⟩, Below.refl _ _⟩
  case round =>
    obtain ⟨k, hk, rfl, ⟨oo, oc, rfl, how⟩, hB⟩ := hrel
    by_cases hlt : k < n
    · have hltI : (k : Int) < n := by omega
      have hkb : k < (bndL partO l (duesT l)).length := by have := HN.out.2; omega
      obtain ⟨g, off, hv, hg, c1, c2⟩ := PairsAt.cell (HU.out.2.below hB (Nat.le_refl _)) hkb
      have hx := HL.out.2 k hkb
      have hkl : k < ls.length := by have := HN.out.1; omega
      have htk : ls.take (k + 1) = ls.take k ++ [ls[k]] := List.take_succ_eq_append_getElem hkl
      generalize (bndL partO l (duesT l))[k] = r at *
      obtain ⟨x, y⟩ := r
      simp only at hx c1 c2
      rw [← hx] at htk
      have HX := Lib.hid (And.intro how (And.intro hB htk))
      have hsz := hB.size
      cases hv
      clear how hB htk hx hkl
      go_wp2_with (at_builtin; refine wpList_append_at rfl _ _ tInts rfl W2.heap.size (.slice oo k oc) k (intCells (ls.take k)) rfl ?_ (.slice (some ⟨wr.heap.size + 1, 0, none⟩) 1 1) 1 (intCells [x]) rfl ?_ (one_ints _) (by omega) (by omega) (by simp; omega) ?_)
      · exact owns_ext (Ms := []) HX.out.1 (Ext.of_below (by exact (by repeat (first | exact Below.refl _ _ | assumption | refine bgo ?_ (by assumption) | refine bgoAlloc ?_ _ | refine bgoDrew ?_ | refine bgoSet ?_ (by simp; omega) _)))) (by simp)
      · exact SlAt.of_block 1 1 (heap_new1 _ _ _) rfl (by decide)
      · intro v' Wc hown hgr hcase
        obtain ⟨oo3, oc3, rfl⟩ := owns_slice hown
        have hup : intCells (ls.take k) ++ intCells [x] = intCells (ls.take (k + 1)) := by rw [HX.out.2.2, intCells_app]
        rw [hup] at hown
        have hwB : Below wr.heap.size wr ((wr.alloc (.cells #[iv x, iv y] 31)).alloc (.cells #[iv x] 3)) := bgoAlloc (bgoAlloc (Below.refl _ _) _) _
        have HY := Lib.hid (And.intro hown (Below.grown (bgo HX.out.2.1 hwB) hgr (by have := hwB.size; omega) (fun g e => (owns_ge HX.out.1 g e).1)))
        clear hown hgr hcase hup hwB hsz
        go_wp2_with fail
        go_roundw
        case rel => exact ⟨k + 1, by omega, by go_num, ⟨oo3, oc3, rfl, HY.out.1⟩, HY.out.2⟩
        case measure => simp [intOf]; omega
    · have hkn : k = n := by omega
      rw [hkn] at how ⊢
      rw [show ls.take n = ls from by rw [← HN.out.1]; exact List.take_length] at how
      have hiv : IntsAt wr (.slice oo n oc) ls := by have := SlAt.of_owns how; unfold IntsAt; rw [HN.out.1]; exact this
      have HX := Lib.hid (And.intro (bgo HU.out.1 hB) hiv)
      have HSUM := Lib.hid (sum_any ls (.slice oo n oc) wr hiv (fun z hz => by have := HL.out.1 z hz; omega) (by rw [HN.out.1]; omega))
      obtain ⟨s, hs⟩ : ∃ s, sumI ls = s := ⟨_, rfl⟩
      rw [hs] at HSUM HSV
      have HS := Lib.hid hs
      clear how hB hiv hkn hs hk hlt
      go_wp2_with fail
      refine HSUM.out.mono ?_
      rintro e W3 ⟨rfl, hb⟩
      have HX3 := Lib.hid (And.intro (bgo HX.out.1 hb) (HX.out.2.below hb (Nat.le_refl _)))
      clear hb
      by_cases hle : s ≤ of
      · have HV := Lib.hid (show safeV l of = ls from by rw [HSV.out, if_pos hle])
        go_wp2_with fail
        go_returns
        exact ⟨HX3.out.1, .inr ⟨HQ.out, _, by simp; rfl, by rw [HV.out]; exact HX3.out.2⟩⟩
      · have HV := Lib.hid (show safeV l of = shareL of ls from by rw [HSV.out, if_neg hle])
        have HSH := Lib.hid (share_any of ls (.slice oo n oc) W3 HX3.out.2 HOF.out (by have := HOF.out; have := HS.out; omega) (fun z hz => by have := HL.out.1 z hz; omega) (by rw [HN.out.1]; omega))
        go_wp2_with fail
        refine HSH.out.mono ?_
        rintro e W4 ⟨u, rfl, hu, hb⟩
        obtain ⟨ao, ac, rfl⟩ := owns_slice hu
        have HX4 := Lib.hid (And.intro (bgo HX3.out.1 hb) (SlAt.of_owns hu))
        clear hb hu
        go_wp2_with fail
        go_returns
        exact ⟨HX4.out.1, .inr ⟨HQ.out, _, by simp; rfl, by rw [HV.out]; exact HX4.out.2⟩⟩
end Go.Proofs.Ytechgmnkcijahaa

namespace Go.Proofs.Ytechgmnkcijahaa
open Go.RowKit Go.RG Go.SL Go.Shelf Cou Go.TB
set_option maxHeartbeats 400000
set_option maxRecDepth 10000

theorem run_eql_dues (w : World) (xs ys : List Int) (hx : xs.length = 3) (hy : ys.length = 3) :
    (binOp .eql 79 (.agg (intCells xs).toArray) (.agg (intCells ys).toArray)).run Try.prog w = .ok (.bool (xs == ys)) w := by
  rw [run_eql_struct, run_equalIn_ints w 9998 79 3 3 Try.underlying79 Try.underlying3 (by intro w; go_simp) xs ys hx hy]
  rfl

def shareErr (l : LedgerD) (pot : Int) : Int := if askedErr l (inB pot 0 2000) ≠ 0 then askedErr l (inB pot 0 2000) else if noneS l (duesT l) = true then 7 else 0
def SharePost (l : LedgerD) (pot : Int) (w : World) (e : Ending) (w' : World) : Prop :=
  Below w.heap.size w w' ∧ ((shareErr l pot ≠ 0 ∧ e = .returned (.tuple #[.slice none 0 0, iv (shareErr l pot)])) ∨
    (shareErr l pot = 0 ∧ ∃ u, e = .returned (.tuple #[u, iv 0]) ∧ PairsAt w' u (shrL l pot (duesT l))))

theorem nowsS_len (l : LedgerD) (pot : Int) {d : List Int} (h3 : d.length = 3) (hw : l.field.weeders ≤ 3) : (nowsS l pot d).length = l.field.weeders.toNat := by
  unfold nowsS
  rw [List.length_map, shareL_len, List.length_take, h3]
  omega

theorem dues_over {l : LedgerD} (hS : SoundL l) {d : List Int} (hd : d ∈ duesT l) : ∀ i, l.field.weeders.toNat ≤ i → i < 3 → d.getD i 0 = 0 := by
  intro i hi h3
  obtain ⟨t, ht, rfl⟩ := mem_duesT.1 hd
  rw [duesV_get _ _ h3]
  have hF := soundF_of hS.field
  have hc : t.count (i : Int) = 0 := by
    rw [List.count_eq_zero]
    intro hm
    obtain ⟨j, hj, hje⟩ := List.getElem_of_mem hm
    have := (mem_allF.1 (truthsF_mem ht).1).2 j (by have := truthsF_len ht; omega)
    rw [show t.getD j 0 = t[j] from by simp [List.getD, hj], hje] at this
    omega
  rw [hc]
  simp

set_option maxHeartbeats 8000000 in
theorem Share_any (l : LedgerD) (tv nv : Value) (of : Int) (w : World) (ht : TalliesAt w tv l.field.tallies) (hn : TriplesAt w nv l.notes) :
    Calls Try.prog 9 #[lv l tv nv, iv of] w (SharePost l of w) := by
  have HASK := Lib.hid (fun (W : World) (hb : Below (w.heap.size + 1) (w.alloc (.cells (lcells l tv nv) 34)) W) => asked_any l tv nv (inB of 0 2000) W ((ht.alloc _).below hb (by simp)) ((hn.alloc _).below hb (by simp)))
  rw [show w.heap.size + 1 = (w.alloc (.cells (lcells l tv nv) 34)).heap.size from by simp] at HASK
  clear ht hn
  obtain ⟨q, hq⟩ : ∃ q, askedErr l (inB of 0 2000) = q := ⟨_, rfl⟩
  have HQ := Lib.hid hq
  by_cases hq0 : q = 0
  case neg =>
    have hqb : (q != 0) = true := by simpa using hq0
    have HQ0 := Lib.hid hq0
    have HE := Lib.hid (show shareErr l of = q from by unfold shareErr; rw [hq, if_pos hq0])
    clear hq hq0
    go_enter Try.func9, Try.ntmps9
    go_wp2_with fail
    refine wp_region_rg 8 [] none [(2, Spec.val (.bool (inB of 0 2000))), (3, Spec.val (.tuple #[.pointer none, iv q]))] (by as_aux_lemma => kernel_rfl) (by as_aux_lemma => kernel_rfl) ?_
    simp only [List.take_succ_cons, List.take_zero, List.drop_succ_cons, List.drop_zero]
    repeat (first | (refine tree_det (by rfl) _ (by rfl) (fun W hW => by go_simp; (try simp (disch := omega) only [IntWalk.i64_in]); try rfl) ?_; simp only [Act.put, List.setIfInBounds_toArray, List.set_cons_succ, List.set_cons_zero]) | (refine tree_skip (by rfl) (by rfl) ?_; simp only [Act.put, List.setIfInBounds_toArray, List.set_cons_succ, List.set_cons_zero]))
    refine tree_val _ (by rfl) (by rfl) 23 _ (fun W hW => by go_simp; try rfl) (fun W hE hF => by exact money_any of W) ?_
    simp only [Act.put, List.setIfInBounds_toArray, List.set_cons_succ, List.set_cons_zero]
    repeat (first | (refine tree_det (by rfl) _ (by rfl) (fun W hW => by go_simp; (try simp (disch := omega) only [IntWalk.i64_in]); try rfl) ?_; simp only [Act.put, List.setIfInBounds_toArray, List.set_cons_succ, List.set_cons_zero]) | (refine tree_skip (by rfl) (by rfl) ?_; simp only [Act.put, List.setIfInBounds_toArray, List.set_cons_succ, List.set_cons_zero]))
    refine tree_val _ (by rfl) (by rfl) 22 #[lv l tv nv, .bool (inB of 0 2000)] (fun W hW => by go_simp; try rfl) (fun W hE hF => ?_) ?_
    · refine (HASK.out W (Ext.below (show Ext [] _ W from hE))).mono ?_
      rintro e W' ⟨hb, ⟨_, rfl⟩ | ⟨h0, _⟩⟩
      · exact ⟨by rw [HQ.out], hb⟩
      · exact absurd (HQ.out.symm.trans h0) HQ0.out
    simp only [Act.put, List.setIfInBounds_toArray, List.set_cons_succ, List.set_cons_zero]
    repeat (first | (refine tree_det (by rfl) _ (by rfl) (fun W hW => by go_simp; (try simp (disch := omega) only [IntWalk.i64_in]); try rfl) ?_; simp only [Act.put, List.setIfInBounds_toArray, List.set_cons_succ, List.set_cons_zero]) | (refine tree_skip (by rfl) (by rfl) ?_; simp only [Act.put, List.setIfInBounds_toArray, List.set_cons_succ, List.set_cons_zero]))
    intro W1 hE hF
    have HB1 := Lib.hid (show Below w.heap.size w W1 from bgo (bgoAlloc (Below.refl _ _) _) (Ext.below (show Ext [] _ W1 from hE)))
    clear hE hF
    go_wp2_with fail
    go_returns
    exact ⟨HB1.out, .inl ⟨by rw [HE.out]; exact HQ0.out, by rw [HE.out]; simp⟩⟩
  subst hq0
  have HE := Lib.hid (show shareErr l of = if noneS l (duesT l) = true then 7 else 0 from by unfold shareErr; rw [hq, if_neg (by simp)])
  clear hq
  go_enter Try.func9, Try.ntmps9
  go_wp2_with fail
  refine wp_region_rg 8 [] none [(2, Spec.val (.bool (inB of 0 2000))), (3, ⟨fun _ v => ∃ wb : Nat, v = .tuple #[.pointer (some ⟨wb, 0, none⟩), iv 0], fun _ v Wx => ∃ (wb mb : Nat) (v' : Value), v = .tuple #[.pointer (some ⟨wb, 0, none⟩), iv 0] ∧ w.heap.size < wb ∧ w.heap.size < mb ∧ LwKn Wx wb mb l tv nv v' []⟩)] (by as_aux_lemma => kernel_rfl) (by as_aux_lemma => kernel_rfl) ?_
  simp only [List.take_succ_cons, List.take_zero, List.drop_succ_cons, List.drop_zero]
  repeat (first | (refine tree_det (by rfl) _ (by rfl) (fun W hW => by go_simp; (try simp (disch := omega) only [IntWalk.i64_in]); try rfl) ?_; simp only [Act.put, List.setIfInBounds_toArray, List.set_cons_succ, List.set_cons_zero]) | (refine tree_skip (by rfl) (by rfl) ?_; simp only [Act.put, List.setIfInBounds_toArray, List.set_cons_succ, List.set_cons_zero]))
  refine tree_val _ (by rfl) (by rfl) 23 _ (fun W hW => by go_simp; try rfl) (fun W hE hF => by exact money_any of W) ?_
  simp only [Act.put, List.setIfInBounds_toArray, List.set_cons_succ, List.set_cons_zero]
  repeat (first | (refine tree_det (by rfl) _ (by rfl) (fun W hW => by go_simp; (try simp (disch := omega) only [IntWalk.i64_in]); try rfl) ?_; simp only [Act.put, List.setIfInBounds_toArray, List.set_cons_succ, List.set_cons_zero]) | (refine tree_skip (by rfl) (by rfl) ?_; simp only [Act.put, List.setIfInBounds_toArray, List.set_cons_succ, List.set_cons_zero]))
  refine tree_some _ (by rfl) (by rfl) (by exact ⟨_, 0, rfl⟩) (fun Wa hE hF => ?_) (fun v Wa Wb ho hE => ?_) (fun v hv => ?_)
  · have hE' : Ext [] _ Wa := hE
    refine does_enter 22 #[lv l tv nv, .bool (inB of 0 2000)] (by go_simp; try rfl) ?_
    refine (HASK.out Wa hE'.below).mono ?_
    rintro e W' ⟨hb, ⟨hne, _⟩ | ⟨_, wb, mb, v', rfl, hwb, hmb, hkn⟩⟩
    · exact absurd HQ.out hne
    have hsz := hE'.size
    simp only [World.size_alloc] at hsz
    exact ⟨_, rfl, ⟨wb, rfl⟩, ⟨wb, mb, v', rfl, by omega, by omega, hkn⟩, Ext.of_below hb⟩
  · obtain ⟨wb, mb, v', h1, h2, h3, h4⟩ := ho
    exact ⟨wb, mb, v', h1, h2, h3, h4.below (Ext.below (show Ext [] Wa Wb from hE)) (Nat.le_refl _)⟩
  obtain ⟨wb, rfl⟩ := hv
  simp only [Act.put, List.setIfInBounds_toArray, List.set_cons_succ, List.set_cons_zero]
  repeat (first | (refine tree_det (by rfl) _ (by rfl) (fun W hW => by go_simp; (try simp (disch := omega) only [IntWalk.i64_in]); try rfl) ?_; simp only [Act.put, List.setIfInBounds_toArray, List.set_cons_succ, List.set_cons_zero]) | (refine tree_skip (by rfl) (by rfl) ?_; simp only [Act.put, List.setIfInBounds_toArray, List.set_cons_succ, List.set_cons_zero]))
  intro W1 hE hF
  obtain ⟨wb', mb, v, he, hwb, hmb, hkn⟩ := hF _ (List.Mem.head _)
  cases he
  have HB1 := Lib.hid (And.intro (show Below w.heap.size w W1 from bgo (bgoAlloc (Below.refl _ _) _) (Ext.below (show Ext [] _ W1 from hE))) (And.intro (((show Ext [] (w.alloc (.cells (lcells l tv nv) 34)) W1 from hE).block w.heap.size (by simp) (by simp)).trans (heap_new0 w (.cells (lcells l tv nv) 34))) hkn))
  clear hE hF
  obtain ⟨hS, _, hfine, _⟩ := asked_sound HQ.out
  have hF := soundF_of hS.field
  have hw0 := hF.weed0
  have hw3 := hF.weed1
  have HS := Lib.hid hS
  have HOF := Lib.hid (show 0 ≤ of ∧ of ≤ 2000 from by have := hfine; unfold inB at this; simpa using this)
  have hlen : (duesT l).length ≤ 2500 := Nat.le_trans (duesTo_len l _) (truthsF_count hF [])
  obtain ⟨n, hn⟩ : ∃ n : Nat, l.field.weeders.toNat = n := ⟨_, rfl⟩
  have hn1 : 1 ≤ n := by omega
  have hn3 : n ≤ 3 := by omega
  have HN := Lib.hid hn
  obtain ⟨vo, vc, rfl⟩ := hkn.work.truth.open
  obtain ⟨ds, hds⟩ : ∃ ds, duesT l = ds := ⟨_, rfl⟩
  rw [hds] at hlen
  have hck := hkn.work.cells
  rw [hds] at hck
  obtain ⟨c1, f1, l1⟩ := cells_of_block hck
  have HDS := Lib.hid hds
  rw [hds] at HE
  have hwl := (Array.getElem?_eq_some_iff.1 HB1.out.2.1).1
  clear hF hw0 hn hS hfine hds hck hkn hwb hmb
  go_wp2_with fail
  go_loopw [8, 30] (fun v8 u wr => ∃ k : Nat, k ≤ ds.length ∧ u = .int .i64 k ∧ noneS l (ds.take k) = false ∧ (∃ oo oc, v8 = .slice oo (shrTo l of k ds).length oc ∧ wr.ownsRow W1.heap.size 31 2 (.slice oo (shrTo l of k ds).length oc) (shrTo l of k ds).length (pairCells (shrTo l of k ds))) ∧ Below W1.heap.size W1 wr) (fun _ u _ => ds.length - (intOf u).toNat)
  case atStart => exact ⟨0, Nat.zero_le _, rfl, rfl, ⟨none, 0, rfl, ⟨rfl, .inl ⟨rfl, rfl⟩⟩⟩, Below.refl _ _⟩
  case round =>
    obtain ⟨k, hk, rfl, hno, ⟨oo, oc, rfl, how⟩, hB⟩ := hrel
    by_cases hlt : k < ds.length
    · have hkn := HB1.out.2.2.below hB (Nat.le_refl _)
      have hkl := (hB.block _ hwl).trans HB1.out.2.1
      have htr := hkn.work.truth
      rw [HDS.out] at htr
      obtain ⟨b, off, y0, y1, y2, hvo, hbl, hys, hc0, hc1, hc2⟩ := dues_cell htr (by rw [← HDS.out]; exact duesT_three l) hlt
      cases hvo
      have hacc := accTo_len (canPay l []) (nowsS l of) ds n (fun d hd _ => by rw [nowsS_len l of (by rw [← HDS.out] at hd; exact duesT_three l d hd) hw3]; exact HN.out) k hk
      have hsu := accTo_succ (canPay l []) (nowsS l of) hlt
      have hdm : ds[k] ∈ duesT l := by rw [HDS.out]; exact List.getElem_mem _
      have htk : ds.take (k + 1) = ds.take k ++ [ds[k]] := List.take_succ_eq_append_getElem hlt
      obtain ⟨d, hd⟩ : ∃ d, ds[k] = d := ⟨_, rfl⟩
      rw [hd] at hsu hdm hys htk
      have hdd : d ∈ ds := by rw [← hd]; exact List.getElem_mem _
      obtain ⟨acc, hac⟩ : ∃ acc, shrTo l of k ds = acc := ⟨_, rfl⟩
      have hac' : accTo (canPay l []) (nowsS l of) k ds = acc := hac
      rw [hac] at how
      rw [hac'] at hacc hsu
      rw [hac]
      have hlkI : (k : Int) < ds.length := by omega
      have HD := Lib.hid (And.intro hys (And.intro hdm hdd))
      have HSU := Lib.hid (show shrTo l of (k + 1) ds = accStep (canPay l []) (nowsS l of) acc d from hsu)
      have HAC := Lib.hid hacc
      have HNO := Lib.hid (show noneS l (ds.take (k + 1)) = (canPay l [] d && d == [0, 0, 0]) from by unfold noneS; rw [htk, List.any_append]; unfold noneS at hno; rw [hno]; simp)
      have HX := Lib.hid (And.intro how (And.intro hB (And.intro hkn hkl)))
      have hsz := hB.size
      obtain ⟨s3, hs3⟩ : ∃ s3, wr.heap.size = s3 := ⟨_, rfl⟩
      clear how hB hkn hkl htr hsu hys hdm hdd hd hac hac' hacc hk hno htk
      go_upto_region 8 with (fail)
      refine gworld fun W5 hW5 => ?_
      have hB5 : Below wr.heap.size wr W5 := by rw [hW5]; exact (by repeat (first | exact Below.refl _ _ | assumption | refine bgo ?_ (by assumption) | refine bgoAlloc ?_ _ | refine bgoDrew ?_ | refine bgoSet ?_ (by simp; omega) _))
      have hk5 : W5.heap[wr.heap.size]? = some (.cells #[iv y0, iv y1, iv y2] 79 (0, 0)) := by rw [hW5]; exact heap_new0 _ _
      have hkn5 := HX.out.2.2.1.below hB5 (Nat.le_refl _)
      have hag : aggI d = .agg #[iv y0, iv y1, iv y2] := by rw [HD.out.1]; rfl
      have HPA := Lib.hid (hag ▸ paid_at HS.out HD.out.2.1 hkn5)
      have h5l := (hB5.block _ (by omega)).trans HX.out.2.2.2
      have hB15 := bgo HX.out.2.1 hB5
      have how5 : W5.ownsRow W1.heap.size 31 2 (.slice oo acc.length oc) acc.length (pairCells acc) := owns_keep HX.out.1 fun g hg => hB5.block g (owns_ge HX.out.1 g hg).2
      have hog : ∀ g, (Value.slice oo acc.length oc).ownBlock = some g → g < s3 := fun g hg => by rw [← hs3]; exact (owns_ge HX.out.1 g hg).2
      rw [hs3] at hk5
      have hs35 : s3 < W5.heap.size := (Array.getElem?_eq_some_iff.1 hk5).1
      have hs13 : W1.heap.size ≤ s3 := by omega
      have H5 := Lib.hid (And.intro how5 (And.intro hB15 (And.intro hk5 (And.intro h5l hog))))
      obtain ⟨c5, f5, l5⟩ := cells_of_block hk5
      (try rw [hs3])
      clear hW5 hB5 hk5 hkn5 h5l hB15 how5 hog hs3 hsz hc0 hc1 hc2 hbl HX hag
      go_wp2_with fail
      refine HPA.out.mono ?_
      rintro e W6 ⟨hb, hcase⟩
      obtain ⟨is, v5, rfl, his⟩ : ∃ (is : Bool) (v5 : Value), e = .returned (.tuple #[v5, .bool is]) ∧ canPay l [] d = is := by
        rcases hcase with ⟨hc, u, rfl, hu⟩ | ⟨hc, rfl⟩
        · exact ⟨true, u, rfl, hc⟩
        · exact ⟨false, .slice none 0 0, rfl, hc⟩
      have h66 := (hb.block _ (show s3 < W5.heap.size by omega)).trans H5.out.2.2.1
      have h6l := (hb.block _ (show w.heap.size < W5.heap.size by omega)).trans H5.out.2.2.2.1
      have how6 : W6.ownsRow W1.heap.size 31 2 (.slice oo acc.length oc) acc.length (pairCells acc) := owns_keep H5.out.1 fun g hg => hb.block g (by have := H5.out.2.2.2.2 g hg; omega)
      have hs56 := hb.size
      have H6 := Lib.hid (And.intro how6 (And.intro (bgo H5.out.2.1 hb) (And.intro h66 h6l)))
      have HIS := Lib.hid his
      clear hb hcase his h66 h6l how6 c5 f5 l5
      cases is
      · have HST := Lib.hid (show shrTo l of (k + 1) ds = acc from by rw [HSU.out]; unfold accStep; rw [HIS.out]; rfl)
        have HNO' := Lib.hid (show noneS l (ds.take (k + 1)) = false from by rw [HNO.out, HIS.out]; rfl)
        go_wp2_with fail
        go_roundw
        case rel => exact ⟨k + 1, by omega, by go_num, HNO'.out, ⟨oo, oc, by rw [HST.out], by rw [HST.out]; exact H6.out.1⟩, H6.out.2.1⟩
        case measure => simp [intOf]; omega
      obtain ⟨c6, f6, l6⟩ := cells_of_block H6.out.2.2.1
      have heq := fun (W : World) => run_eql_dues W d [0, 0, 0] (by rw [HD.out.1]; rfl) rfl
      rw [show (Value.agg (intCells d).toArray) = .agg #[iv y0, iv y1, iv y2] from by rw [HD.out.1]; rfl, show (Value.agg (intCells [0, 0, 0]).toArray) = .agg #[iv 0, iv 0, iv 0] from rfl] at heq
      obtain ⟨zb, hzb⟩ : ∃ zb, (d == [0, 0, 0]) = zb := ⟨_, rfl⟩
      rw [hzb] at heq
      have HZ := Lib.hid hzb
      clear hzb
      cases zb
      case true =>
        have HR := Lib.hid (show shareErr l of = 7 from by
          rw [HE.out, if_pos]
          unfold noneS
          rw [List.any_eq_true]
          exact ⟨d, HD.out.2.2, by rw [HIS.out, HZ.out]; rfl⟩)
        go_wp2_with fail
        go_returns
        exact ⟨bgo HB1.out.1 H6.out.2.1, .inl ⟨by rw [HR.out]; simp, by rw [HR.out]; simp⟩⟩
      have HNO' := Lib.hid (show noneS l (ds.take (k + 1)) = false from by rw [HNO.out, HIS.out, HZ.out]; rfl)
      have hwv : l.field.weeders = (n : Int) := by have := HN.out; omega
      have hcl := (cells_of_block H6.out.2.2.2).1
      simp only [lcells, hwv] at hcl
      clear hwv
      have hsl := fun (W : World) => slice_dues s3 n hn1 hn3 W
      have hd3 : d.length = 3 := by rw [HD.out.1]; rfl
      have hdl : (d.take n).length = n := by rw [List.length_take, hd3]; omega
      have hiv : IntsAt W6 (.slice (some ⟨s3, 0, none⟩) n 3) (d.take n) := by
        unfold IntsAt
        rw [hdl]
        have := SlAt.of_prefix n 3 H6.out.2.2.1 (by simp; omega) hn3 (by simp [maxLen])
        rw [show intCells (d.take n) = (#[iv y0, iv y1, iv y2] : Array Value).toList.take n from by rw [HD.out.1]; unfold intCells; rw [List.map_take]; rfl]
        exact this
      have hbd := fun i hi => duesT_bd HS.out HD.out.2.1 i hi
      have hsum := sumI_take3 hd3 (fun i hi => (hbd i hi).1) hn3 (by have := dues_over HS.out HD.out.2.1; rw [HN.out] at this; exact this)
      have hpos : 0 < sumI (d.take n) := by
        have h1 := hsum.2
        have h2 : ¬ d = [0, 0, 0] := by have := HZ.out; simpa using this
        have h4 := hsum.1
        have h5 : ¬ sumI (d.take n) = 0 := fun e => h2 (h1.1 e)
        omega
      have HSH := Lib.hid (share_any of (d.take n) (.slice (some ⟨s3, 0, none⟩) n 3) W6 hiv HOF.out hpos (fun z hz => by
        have hz' := List.mem_of_mem_take hz
        obtain ⟨i, hi, hie⟩ := List.getElem_of_mem hz'
        have := hbd i (by omega)
        rw [show d.getD i 0 = z from by rw [← hie]; simp [List.getD, hi]] at this
        exact ⟨this.1, by omega⟩) (by omega))
      have HSHL := Lib.hid (show (shareL of (d.take n)).length = n from by rw [shareL_len, hdl])
      clear hsum hpos hiv hd3 hdl hbd
      go_wp2_with fail
      refine HSH.out.mono ?_
      rintro e W7 ⟨u, rfl, hu, hb⟩
      obtain ⟨sh, hsh⟩ : ∃ sh, shareL of (d.take n) = sh := ⟨_, rfl⟩
      have hshl := HSHL.out
      rw [hsh] at hu hshl
      rw [hshl] at hu
      obtain ⟨so, sc, rfl⟩ := owns_slice hu
      obtain ⟨ns, hns⟩ : ∃ ns : List Rng, sh.map (fun x => (x, x)) = ns := ⟨_, rfl⟩
      have hnl : ns.length = n := by rw [← hns, List.length_map, hshl]
      have hnd : nowsS l of d = ns := by unfold nowsS; rw [HN.out, hsh, hns]
      have hstep : shrTo l of (k + 1) ds = addTo acc ns n := by
        rw [HSU.out]
        unfold accStep
        rw [if_pos HIS.out, hnd, ← hnl, addTo_all (by rw [hnl]; exact HAC.out)]
      have how7 : W7.ownsRow W1.heap.size 31 2 (.slice oo acc.length oc) acc.length (pairCells acc) := owns_keep H6.out.1 fun g hg => hb.block g (by have := (owns_ge H6.out.1 g hg).2; omega)
      have h7g : ∀ g, (Value.slice oo acc.length oc).ownBlock = some g → g < s3 := H5.out.2.2.2.2
      have hs67 := hb.size
      have H7 := Lib.hid (And.intro how7 (And.intro (bgo H6.out.2.1 hb) (And.intro h7g hu)))
      have HNS := Lib.hid (And.intro hshl (And.intro hns hnl))
      have HST := Lib.hid hstep
      have h6s : s3 < W6.heap.size := by omega
      clear hb hu hshl hns hnl hnd hstep how7 h7g hcl hsl heq c6 f6 l6 hsh
      go_wp2_with fail
      go_loopw [8, 52] (fun v8 u wq => ∃ i : Nat, i ≤ n ∧ u = .int .i64 i ∧ (∃ oo oc, v8 = .slice oo (addTo acc ns i).length oc ∧ wq.ownsRow W1.heap.size 31 2 (.slice oo (addTo acc ns i).length oc) (addTo acc ns i).length (pairCells (addTo acc ns i)) ∧ (∀ g, (Value.slice oo (addTo acc ns i).length oc).ownBlock = some g → g < s3 ∨ W7.heap.size ≤ g)) ∧ Below W1.heap.size W1 wq ∧
        (∀ b, s3 ≤ b → b < W7.heap.size → wq.heap[b]? = W7.heap[b]?) ∧ W7.heap.size ≤ wq.heap.size) (fun _ u _ => n - (intOf u).toNat)
      case atStart =>
        refine ⟨0, Nat.zero_le _, rfl, ⟨oo, oc, by rw [addTo_zero], ?_, ?_⟩, H7.out.2.1, fun b _ _ => rfl, Nat.le_refl _⟩
        · rw [addTo_zero]; exact H7.out.1
        · rw [addTo_zero]; exact fun g hg => .inl (H7.out.2.2.1 g hg)
      case round =>
        obtain ⟨i, hi, rfl, ⟨oo2, oc2, rfl, how, hog⟩, hBq, hkeep, hszq⟩ := hrel
        by_cases hlt2 : i < n
        · have hpv := SlAt.of_owns (owns_keep (w' := wr) H7.out.2.2.2 fun g hg => hkeep g (by have := (owns_ge H7.out.2.2.2 g hg).1; omega) (owns_ge H7.out.2.2.2 g hg).2)
          have hsl : i < sh.length := by rw [HNS.out.1]; exact hlt2
          obtain ⟨gp, po', hvp, hgp, q0⟩ := IntsAt.cell (show SlAt 1 wr (.slice so sh.length sc) sh.length (intCells sh) from by rw [HNS.out.1]; exact hpv) hsl
          cases hvp
          have hin2 : i < ns.length := by rw [HNS.out.2.2]; exact hlt2
          have hne : ns[i] = (sh[i], sh[i]) := by
            have h1 := HNS.out.2.1
            subst h1
            simp
          have hlenA := addTo_len (acc := acc) (nows := ns) (i := i) (by have := HAC.out; rw [HNS.out.2.2]; exact this) (by omega)
          have hold := fun (ha : acc ≠ []) (h : acc.length = ns.length) => addTo_old ha h hin2
          generalize sh[i] = x at *
          rw [hne] at hold
          have hnew := fun (ha : acc = []) => show addTo acc ns (i + 1) = addTo acc ns i ++ [(x, x)] from by subst ha; rw [addTo_new hin2, hne]
          have HOLD := Lib.hid (And.intro hold hnew)
          have HLA := Lib.hid hlenA
          have HX := Lib.hid (And.intro how (And.intro hog (And.intro hBq (And.intro hkeep hszq))))
          have hltI : (i : Int) < n := by omega
          have hi3 : i < 3 := by omega
          have hi3I : (i : Int) < 3 := by omega
          clear how hog hBq hkeep hszq hpv hne hlenA hold hnew hsl hin2
          obtain ⟨L, hL⟩ : ∃ L, addTo acc ns i = L := ⟨_, rfl⟩
          rw [hL] at HLA HX ⊢
          simp only [hL] at HOLD
          have HL := Lib.hid hL
          clear hL
          by_cases ha : acc = []
          · have hm : L.length = i := by rw [HLA.out, if_pos ha]
            have hmb : ((L.length : Int) == (i : Int)) = true := by rw [beq_iff_eq]; omega
            have HAN : Hid (addTo acc ns (i + 1) = L ++ [(x, x)]) := Lib.hid (HOLD.out.2 ha)
            have HM := Lib.hid hm
            clear ha hm
            go_upto_region 16 with (fail)
            clear hmb
            have hL3 : L.length ≤ 3 := by have := HM.out; omega
            have hszw : W1.heap.size ≤ wr.heap.size := HX.out.2.2.1.size
            go_wp2_with (at_builtin; refine wpList_append_at rfl _ _ tGRanges rfl W1.heap.size (.slice oo2 L.length oc2) L.length (pairCells L) rfl ?_ (.slice (some ⟨wr.heap.size, 0, none⟩) 1 1) 1 (pairCells [(x, x)]) rfl ?_ (one_pairs _) (by omega) (by omega) (by simp; omega) ?_)
            · exact owns_ext (Ms := []) HX.out.1 (Ext.of_below ((Below.refl _ _).alloc (Nat.le_refl _) _)) (by simp)
            · exact SlAt.of_block 2 1 (heap_new0 _ _) rfl (by decide)
            · intro v' Wc hown hgr hcase
              obtain ⟨oo3, oc3, rfl⟩ := owns_slice hown
              have e3 : L.length + 1 = (L ++ [(x, x)]).length := by simp
              rw [← pairCells_snoc, e3] at hown
              rw [e3] at hcase ⊢
              have hwB : Below wr.heap.size wr (wr.alloc (.cells #[iv x, iv x] 31)) := bgoAlloc (Below.refl _ _) _
              have hkc : ∀ b, b < wr.heap.size → (∀ g, (Value.slice oo2 L.length oc2).ownBlock = some g → g ≠ b) → Wc.heap[b]? = wr.heap[b]? := fun b hb hn => (hgr.block b (by simp; omega) (fun e => hn b (by simpa using e.symm) rfl)).trans (hwB.block b hb)
              have HOC : Hid (Wc.ownsRow W1.heap.size 31 2 (.slice oo3 (L ++ [(x, x)]).length oc3) (L ++ [(x, x)]).length (pairCells (L ++ [(x, x)])) ∧ (∀ g, (Value.slice oo3 (L ++ [(x, x)]).length oc3).ownBlock = some g → g < s3 ∨ W7.heap.size ≤ g) ∧ Below W1.heap.size W1 Wc ∧
                  (∀ b, s3 ≤ b → b < W7.heap.size → Wc.heap[b]? = W7.heap[b]?) ∧ W7.heap.size ≤ Wc.heap.size) := Lib.hid (by
                refine ⟨hown, fun g hg => ?_, Below.grown (bgo HX.out.2.2.1 hwB) hgr (by have := hwB.size; omega) (fun k e => (owns_ge HX.out.1 k e).1), fun b hb1 hb2 => ?_, ?_⟩
                · rcases hcase with h | h
                  · rw [h] at hg; exact HX.out.2.1 g hg
                  · rw [h] at hg
                    have := HX.out.2.2.2.2
                    have : wr.heap.size + 1 = g := by simpa using hg
                    right; omega
                · have := HX.out.2.2.2.2
                  exact (hkc b (by omega) (fun g hg => by have := HX.out.2.1 g hg; omega)).trans (HX.out.2.2.2.1 b hb1 hb2)
                · have h0 := HX.out.2.2.2.2
                  have h1 := hgr.size
                  simp only [World.size_alloc] at h1
                  omega)
              have HLI : Hid (i < (L ++ [(x, x)]).length) := Lib.hid (by have := HM.out; simp; omega)
              have HLZ : Hid ((L ++ [(x, x)])[i]'HLI.out = (x, x)) := Lib.hid (by
                have := HM.out
                subst this
                simp)
              have HLS : Hid ((L ++ [(x, x)]).set i (widR (x, x) (x, x)) = addTo acc ns (i + 1)) := Lib.hid (by
                rw [HAN.out]
                have := HM.out
                subst this
                rw [List.set_append_right _ _ (Nat.le_refl _), Nat.sub_self]
                simp [widR])
              clear hown hgr hcase e3 hwB hkc hL3 hszw HX HOLD HLA HAN
              generalize L ++ [(x, x)] = L3 at *
              have hown9 : Wc.ownsRow W1.heap.size 31 2 (.slice oo3 (L3).length oc3) (L3).length (pairCells (L3)) := HOC.out.1
              obtain ⟨gb, c2, hg2, hgb2, hgl2, ⟨s0, s1⟩, hfr2⟩ := owns_pair hown9 HLI.out
              rw [HLZ.out] at s0 s1
              (try simp only at s0 s1)
              obtain ⟨rfl, rfl⟩ : oo3 = some ⟨gb, 0, none⟩ ∧ oc3 = c2 := by simp at hg2; exact hg2
              have hiL : (i : Int) < ((L3).length : Int) := by have := HLI.out; omega
              clear hown9 hg2 hfr2
              go_wp2_with fail
              refine (gwider_any (x, x) (x, x) _).mono ?_
              rintro e W12 ⟨rfl, hB12⟩
              have hE' : Ext [] Wc W12 := Ext.of_below hB12
              have hown12 : W12.ownsRow W1.heap.size 31 2 (.slice (some ⟨gb, 0, none⟩) (L3).length oc3) (L3).length (pairCells (L3)) := owns_ext (Ms := []) HOC.out.1 hE' (by simp)
              have hset := owns_set_pair hown12 HLI.out (widR (x, x) (x, x))
              obtain ⟨g3, c3, hg3, _, hgl3, ⟨t0, t1⟩, hfr3⟩ := owns_pair hown12 HLI.out
              obtain ⟨rfl, rfl⟩ : gb = g3 ∧ oc3 = c3 := by simp at hg3; exact hg3
              rw [HLS.out] at hset
              have hlen : (L3).length = (addTo acc ns (i + 1)).length := by rw [← HLS.out, List.length_set]
              have hgn : gb < s3 ∨ W7.heap.size ≤ gb := HOC.out.2.1 gb rfl
              have HST := Lib.hid (And.intro hset (And.intro hlen (And.intro (bgo HOC.out.2.2.1 hB12) (And.intro hB12 (And.intro hgn hgb2)))))
              clear hE' hown12 hset hlen hB12 hg3 hgn s0 s1
              go_wp2_with fail
              go_roundw
              case rel =>
                refine ⟨i + 1, by omega, by go_num, ⟨some ⟨gb, 0, none⟩, oc3, by rw [← HST.out.2.1], ?_, ?_⟩, ?_, ?_, ?_⟩
                · have := HST.out.1
                  rw [HST.out.2.1] at this
                  exact this
                · intro g hg
                  have : gb = g := by simpa [Value.ownBlock] using hg
                  rw [← this]; exact HST.out.2.2.2.2.1
                · exact bgoSet (bgoSet HST.out.2.2.1 HST.out.2.2.2.2.2 _) HST.out.2.2.2.2.2 _
                · intro b hb1 hb2
                  have hbg : b ≠ gb := by have := HST.out.2.2.2.2.1; omega
                  have h1 := HOC.out.2.2.2.1 b hb1 hb2
                  have h2 := HST.out.2.2.2.1.block b (by have := HOC.out.2.2.2.2; omega)
                  exact (Below.heap_setCell _ _ _ _ hbg).trans ((Below.heap_setCell _ _ _ _ hbg).trans (h2.trans h1))
                · have := HOC.out.2.2.2.2
                  have := HST.out.2.2.2.1.size
                  simp
                  omega
              case measure => simp [intOf]; omega
          · have hm : L.length = ns.length := by rw [HLA.out, if_neg ha]
            have hal : acc.length = ns.length := by
              have h2 := HNS.out.2.2
              rcases HAC.out with h | h
              · exact absurd h ha
              · omega
            have hin2 : i < ns.length := by have := HNS.out.2.2; omega
            have hneb : ((L.length : Int) == (i : Int)) = false := by rw [beq_eq_false_iff_ne]; omega
            have HLI : Hid (i < L.length) := Lib.hid (by omega)
            have hz := HOLD.out.1 ha hal
            obtain ⟨z, hzd⟩ : ∃ z : Rng, acc.getD i (0, 0) = z := ⟨_, rfl⟩
            rw [hzd] at hz
            have HLZ : Hid (L[i]'HLI.out = z) := Lib.hid (by
              rw [← hzd, List.getD_eq_getElem?_getD, ← hz.1, List.getElem?_eq_getElem HLI.out]
              rfl)
            have HLS : Hid (L.set i (widR z (x, x)) = addTo acc ns (i + 1)) := Lib.hid hz.2.symm
            have HM := Lib.hid hm
            clear ha hm hal hz hzd HOLD HLA HL hin2
            go_upto_region 17 with (fail)
            clear hneb
            have HOC := HX
            clear HX
            have hown9 : wr.ownsRow W1.heap.size 31 2 (.slice oo2 (L).length oc2) (L).length (pairCells (L)) := HOC.out.1
            obtain ⟨gb, c2, hg2, hgb2, hgl2, ⟨s0, s1⟩, hfr2⟩ := owns_pair hown9 HLI.out
            rw [HLZ.out] at s0 s1
            (try simp only at s0 s1)
            obtain ⟨rfl, rfl⟩ : oo2 = some ⟨gb, 0, none⟩ ∧ oc2 = c2 := by simp at hg2; exact hg2
            have hiL : (i : Int) < ((L).length : Int) := by have := HLI.out; omega
            clear hown9 hg2 hfr2
            go_wp2_with fail
            refine (gwider_any z (x, x) _).mono ?_
            rintro e W12 ⟨rfl, hB12⟩
            have hE' : Ext [] wr W12 := Ext.of_below hB12
            have hown12 : W12.ownsRow W1.heap.size 31 2 (.slice (some ⟨gb, 0, none⟩) (L).length oc2) (L).length (pairCells (L)) := owns_ext (Ms := []) HOC.out.1 hE' (by simp)
            have hset := owns_set_pair hown12 HLI.out (widR z (x, x))
            obtain ⟨g3, c3, hg3, _, hgl3, ⟨t0, t1⟩, hfr3⟩ := owns_pair hown12 HLI.out
            obtain ⟨rfl, rfl⟩ : gb = g3 ∧ oc2 = c3 := by simp at hg3; exact hg3
            rw [HLS.out] at hset
            have hlen : (L).length = (addTo acc ns (i + 1)).length := by rw [← HLS.out, List.length_set]
            have hgn : gb < s3 ∨ W7.heap.size ≤ gb := HOC.out.2.1 gb rfl
            have HST := Lib.hid (And.intro hset (And.intro hlen (And.intro (bgo HOC.out.2.2.1 hB12) (And.intro hB12 (And.intro hgn hgb2)))))
            clear hE' hown12 hset hlen hB12 hg3 hgn s0 s1
            go_wp2_with fail
            go_roundw
            case rel =>
              refine ⟨i + 1, by omega, by go_num, ⟨some ⟨gb, 0, none⟩, oc2, by rw [← HST.out.2.1], ?_, ?_⟩, ?_, ?_, ?_⟩
              · have := HST.out.1
                rw [HST.out.2.1] at this
                exact this
              · intro g hg
                have : gb = g := by simpa [Value.ownBlock] using hg
                rw [← this]; exact HST.out.2.2.2.2.1
              · exact bgoSet (bgoSet HST.out.2.2.1 HST.out.2.2.2.2.2 _) HST.out.2.2.2.2.2 _
              · intro b hb1 hb2
                have hbg : b ≠ gb := by have := HST.out.2.2.2.2.1; omega
                have h1 := HOC.out.2.2.2.1 b hb1 hb2
                have h2 := HST.out.2.2.2.1.block b (by have := HOC.out.2.2.2.2; omega)
                exact (Below.heap_setCell _ _ _ _ hbg).trans ((Below.heap_setCell _ _ _ _ hbg).trans (h2.trans h1))
              · have := HOC.out.2.2.2.2
                have := HST.out.2.2.2.1.size
                simp
                omega
            case measure => simp [intOf]; omega
        · have hip : i = n := by omega
          subst hip
          rw [← HST.out] at how hog
          rw [← HST.out]
          have HF := Lib.hid (And.intro how hBq)
          clear how hog hBq hkeep hszq
          go_wp2_with fail
          go_roundw
          case rel => exact ⟨k + 1, by omega, by go_num, HNO'.out, ⟨oo2, oc2, rfl, HF.out.1⟩, HF.out.2⟩
          case measure => simp [intOf]; omega
    · have hkd : k = ds.length := by omega
      subst hkd
      rw [List.take_length] at hno
      have HR := Lib.hid (show shareErr l of = 0 from by rw [HE.out, if_neg (by rw [hno]; simp)])
      have HF := Lib.hid (And.intro how hB)
      clear how hB
      go_wp2_with fail
      go_returns
      exact ⟨bgo HB1.out.1 HF.out.2, .inr ⟨HR.out, _, by simp; rfl, by rw [HDS.out]; exact SlAt.of_owns HF.out.1⟩⟩
end Go.Proofs.Ytechgmnkcijahaa

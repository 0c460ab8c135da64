/-
  Contracts of package wage: small ranges; a ledger that has a truth; the parts of an account.
  Contracts of package wage: the bounds of a part of all accounts.
  Contracts of package wage: what was earned, paid, owed; sum; ProveSafe.
-/
import Derived.WalkKit
import Derived.WalkLawsBesides
import Derived.WalkSpells
import Derived.Outline
import Derived.Handy
import Derived.KernelRfl
import Derived.Lib.Hide
import Derived.Test.YtechgmnkcijahaaQF
import Derived.Test.YtechgmnkcijahaaVA
namespace Go.Proofs.Ytechgmnkcijahaa
open Go.RowKit Go.RG Go.SL Go.Shelf Cou Go.TB
set_option maxHeartbeats 400000
set_option maxRecDepth 10000

theorem ghas_any (r : Rng) (n : Int) (w : World) : Calls Try.prog 36 #[rv r, iv n] w (PV (.bool (inB n r.1 r.2)) w) := by
  go_enter Try.func36, Try.ntmps36
  go_wp2_with fail
  refine (gwithin_any _ _ _ _).mono ?_
  rintro e w' ⟨rfl, hb⟩
  go_wp2_with fail
  go_returns
  exact ⟨by simp, (by repeat (first | exact Below.refl _ _ | assumption | refine bgo ?_ (by assumption) | refine bgoAlloc ?_ _ | refine bgoDrew ?_ | refine bgoSet ?_ (by simp; omega) _))⟩

theorem gwider_any (r x : Rng) (w : World) : Calls Try.prog 32 #[rv r, rv x] w (PV (rv (widR r x)) w) := by
  go_enter Try.func32, Try.ntmps32
  go_wp2_with fail
  refine wp_region_rg 12 [] none [(4, Spec.slice (w.heap.size + 3) #[iv r.1, iv x.1] 3 2), (5, Spec.val (iv (min r.1 x.1)))] (by as_aux_lemma => kernel_rfl) (by as_aux_lemma => kernel_rfl) ?_
  simp only [List.take_succ_cons, List.take_zero, List.drop_succ_cons, List.drop_zero]
  repeat (refine tree_det (by rfl) _ (by rfl) (fun W hW => by go_simp; (try simp (disch := omega) only [IntWalk.i64_in, Int.tdiv_eq_ediv_of_nonneg]); try rfl) ?_; simp only [Act.put, List.setIfInBounds_toArray, List.set_cons_succ, List.set_cons_zero])
  refine tree_slice (w.heap.size + 3) _ _ _ (by rfl) (by simp) (by rfl) (by simp) (by simp) (fun W hW => by go_simp; try rfl) (fun b => ?_)
  simp only [Act.put, List.setIfInBounds_toArray, List.set_cons_succ, List.set_cons_zero]
  refine tree_val _ (by rfl) (by rfl) 55 _ (fun W hW => by go_simp; try rfl) (fun W hE hF => ?_) ?_
  · obtain ⟨c, hcb, hB, hc⟩ := hF _ (List.Mem.head _) (by kernel_rfl)
    cases hcb
    exact gminimum_two r.1 x.1 b 2 W (by simp [World.cell?, hc]) (by simp [World.cell?, hc])
  simp only [Act.put, List.setIfInBounds_toArray, List.set_cons_succ, List.set_cons_zero]
  repeat (refine tree_det (by rfl) _ (by rfl) (fun W hW => by go_simp; (try simp (disch := omega) only [IntWalk.i64_in, Int.tdiv_eq_ediv_of_nonneg]); try rfl) ?_; simp only [Act.put, List.setIfInBounds_toArray, List.set_cons_succ, List.set_cons_zero])
  intro W hE hF
  obtain ⟨hc, hf⟩ := bcell hE.below
  have hzE := hE.size
  (try simp only [World.size_alloc] at hzE)
  go_wp2
  all_goals
    (try simp only [Exit.inBlock, Exit.then])
    refine bodyPost_ret (v := rv (min r.1 x.1, max r.2 x.2)) (by simp [results, Try.results32, go_sem, hc]; try omega) rfl ?_
    exact ⟨rfl, (by repeat (first | exact Below.refl _ _ | assumption | refine bgo ?_ hE.below | refine bgo ?_ (by assumption) | refine bgoAlloc ?_ _ | refine bgoDrew ?_ | refine bgoSet ?_ (by simp; try omega) _))⟩

/-! ### The parts of an account -/
abbrev acv (d : Int) (r : Rng) : Value := .agg #[iv d, iv r.1, iv r.2]
theorem earned_any (d : Int) (r : Rng) (w : World) : Calls Try.prog 20 #[acv d r] w (PV (rv (partE d r)) w) := by
  go_enter Try.func20, Try.ntmps20
  go_wp2_with fail
  go_returns
  exact ⟨by simp [partE], (by repeat (first | exact Below.refl _ _ | assumption | refine bgo ?_ (by assumption) | refine bgoAlloc ?_ _ | refine bgoDrew ?_ | refine bgoSet ?_ (by simp; omega) _))⟩
theorem got_any (d : Int) (r : Rng) (w : World) : Calls Try.prog 64 #[acv d r] w (PV (rv (partP d r)) w) := by
  go_enter Try.func64, Try.ntmps64
  go_wp2_with fail
  go_returns
  exact ⟨by simp [partP], (by repeat (first | exact Below.refl _ _ | assumption | refine bgo ?_ (by assumption) | refine bgoAlloc ?_ _ | refine bgoDrew ?_ | refine bgoSet ?_ (by simp; omega) _))⟩
theorem owed_any (d : Int) (r : Rng) (w : World) (h : (0 ≤ d ∧ d ≤ 350) ∧ 0 ≤ r.1 ∧ r.1 ≤ r.2 ∧ r.2 ≤ 2000) : Calls Try.prog 24 #[acv d r] w (PV (rv (partO d r)) w) := by
  obtain ⟨p, q⟩ := r
  have h1 : -10000 ≤ d - q ∧ d - q ≤ 10000 := by simp only at h; omega
  have h2 : -10000 ≤ d - p ∧ d - p ≤ 10000 := by simp only at h; omega
  clear h
  go_enter Try.func24, Try.ntmps24
  go_wp2_with fail
  go_returns
  exact ⟨by simp [partO], (by repeat (first | exact Below.refl _ _ | assumption | refine bgo ?_ (by assumption) | refine bgoAlloc ?_ _ | refine bgoDrew ?_ | refine bgoSet ?_ (by simp; omega) _))⟩

/-! ### A ledger that has a truth -/
def askedErr (l : LedgerD) (fine : Bool) : Int := if faultW l ≠ 0 then faultW l else if fine = false then 2 else if possibleL l [] = false then 11 else 0
def AskedPost (l : LedgerD) (fine : Bool) (tv nv : Value) (w : World) (e : Ending) (w' : World) : Prop :=
  Below w.heap.size w w' ∧ ((askedErr l fine ≠ 0 ∧ e = .returned (.tuple #[.pointer none, iv (askedErr l fine)])) ∨
    (askedErr l fine = 0 ∧ ∃ (wb mb : Nat) (v : Value), e = .returned (.tuple #[.pointer (some ⟨wb, 0, none⟩), iv 0]) ∧ w.heap.size ≤ wb ∧ w.heap.size ≤ mb ∧ LwKn w' wb mb l tv nv v []))
theorem asked_sound {l : LedgerD} {fine : Bool} (h : askedErr l fine = 0) : SoundL l ∧ faultW l = 0 ∧ fine = true ∧ possibleL l [] = true := by
  unfold askedErr at h
  split at h
  · rename_i h0; exact absurd h h0
  · rename_i h0
    have h0 : faultW l = 0 := by omega
    split at h
    · omega
    · rename_i h1
      split at h
      · omega
      · rename_i h2
        exact ⟨(faultW_sound h0).1, h0, by simpa using h1, by simpa using h2⟩

theorem asked_any (l : LedgerD) (tv nv : Value) (fine : Bool) (w : World) (ht : TalliesAt w tv l.field.tallies) (hn : TriplesAt w nv l.notes) :
    Calls Try.prog 22 #[lv l tv nv, .bool fine] w (AskedPost l fine tv nv w) := by
  have HC := Lib.hid (checked_any l tv nv (w.alloc (.cells (lcells l tv nv) 34)) (ht.alloc _) (hn.alloc _))
  clear ht hn
  obtain ⟨q, hq⟩ : ∃ q, faultW l = q := ⟨_, rfl⟩
  by_cases hq0 : q = 0
  case neg =>
    have HF : Hid (askedErr l fine = q ∧ q ≠ 0) := Lib.hid ⟨by unfold askedErr; rw [hq, if_pos hq0], hq0⟩
    have hqb : (q != 0) = true := by simpa using hq0
    have HQ := Lib.hid hq
    clear hq hq0
    go_enter Try.func22, Try.ntmps22
    go_wp2_with fail
    refine HC.out.mono ?_
    rintro e w1 ⟨hb, ⟨hne, rfl⟩ | ⟨h0, _⟩⟩
    · rw [HQ.out]
      have HB := Lib.hid (show Below w.heap.size w w1 from (by repeat (first | exact Below.refl _ _ | assumption | refine bgo ?_ (by assumption) | refine bgoAlloc ?_ _ | refine bgoDrew ?_ | refine bgoSet ?_ (by simp; omega) _)))
      clear hb hne
      go_wp2_with fail
      go_returns
      exact ⟨HB.out, .inl ⟨by rw [HF.out.1]; exact HF.out.2, by rw [HF.out.1]; simp⟩⟩
    · exact absurd (HQ.out.symm.trans h0) HF.out.2
  subst hq0
  obtain ⟨hS, _⟩ := faultW_sound hq
  have HS := Lib.hid hS
  have HQ := Lib.hid hq
  cases fine
  · have HF : Hid (askedErr l false = 2) := Lib.hid (by unfold askedErr; rw [hq]; rfl)
    clear hq hS
    go_enter Try.func22, Try.ntmps22
    go_wp2_with fail
    refine HC.out.mono ?_
    rintro e w1 ⟨hb, ⟨hne, _⟩ | ⟨_, wb, mb, v, rfl, hwb, hmb, hok⟩⟩
    · exact absurd HQ.out hne
    have HB := Lib.hid (show Below w.heap.size w w1 from (by repeat (first | exact Below.refl _ _ | assumption | refine bgo ?_ (by assumption) | refine bgoAlloc ?_ _ | refine bgoDrew ?_ | refine bgoSet ?_ (by simp; omega) _)))
    clear hb hok
    go_wp2_with fail
    go_returns
    exact ⟨HB.out, .inl ⟨by rw [HF.out]; simp, by rw [HF.out]; simp⟩⟩
  obtain ⟨r, hr⟩ : ∃ r, possibleL l [] = r := ⟨_, rfl⟩
  have HF : Hid (askedErr l true = if r = false then 11 else 0) := Lib.hid (by unfold askedErr; rw [hq, hr]; simp)
  have HR := Lib.hid hr
  clear hq hS hr
  go_enter Try.func22, Try.ntmps22
  go_wp2_with fail
  refine HC.out.mono ?_
  rintro e w1 ⟨hb, ⟨hne, _⟩ | ⟨_, wb, mb, v, rfl, hwb, hmb, hok⟩⟩
  · exact absurd HQ.out hne
  have HP := Lib.hid (HR.out ▸ possible_any HS.out [] hok (SlAt.nil 1 w1))
  have hsz := World.size_alloc w (.cells (lcells l tv nv) 34)
  have hwb' : w.heap.size ≤ wb := by omega
  have hmb' : w.heap.size ≤ mb := by omega
  have HB := Lib.hid (show Below w.heap.size w w1 from (by repeat (first | exact Below.refl _ _ | assumption | refine bgo ?_ (by assumption) | refine bgoAlloc ?_ _ | refine bgoDrew ?_ | refine bgoSet ?_ (by simp; omega) _)))
  clear hb hok hwb hmb hsz
  go_wp2_with fail
  refine HP.out.mono ?_
  rintro e w2 ⟨rfl, hkn, hE⟩
  have HX := Lib.hid (And.intro (below_of_ext HB.out hE hmb') hkn)
  clear hkn hE
  cases r
  · have HF' := Lib.hid HF.out
    go_wp2_with fail
    go_returns
    exact ⟨HX.out.1, .inl ⟨by rw [HF'.out]; simp, by rw [HF'.out]; simp⟩⟩
  · have HF' := Lib.hid HF.out
    go_wp2_with fail
    go_returns
    exact ⟨HX.out.1, .inr ⟨by rw [HF'.out]; rfl, wb, mb, v, by simp, hwb', hmb', HX.out.2⟩⟩

end Go.Proofs.Ytechgmnkcijahaa

namespace Go.Proofs.Ytechgmnkcijahaa
open Go.RowKit Go.RG Go.SL Go.Shelf Cou Go.TB
set_option maxHeartbeats 400000
set_option maxRecDepth 10000

/-- What can have been paid: amounts. -/
theorem paidL_bd {l : LedgerD} (hS : SoundL l) {d : List Int} (hd : d ∈ duesT l) (hc : canPay l [] d = true) {i : Nat} (hi : i < l.field.weeders.toNat) :
    0 ≤ ((paidL l [] d).getD i (0, 0)).1 ∧ ((paidL l [] d).getD i (0, 0)).1 ≤ ((paidL l [] d).getD i (0, 0)).2 ∧ ((paidL l [] d).getD i (0, 0)).2 ≤ 2000 := by
  have h1 := paidL_some hi (by have := hS.box; omega) hc
  have hF := soundF_of hS.field
  have := hF.weed1
  have hb := duesT_bd hS hd i (by omega)
  have hk := known_bd hS [] i hb.1 (by omega)
  rw [paidL_get l [] d hi] at h1 ⊢
  unfold bothR at h1 ⊢
  simp only at h1 ⊢
  omega

set_option maxHeartbeats 40000000 in
theorem bounds_any {l : LedgerD} (hS : SoundL l) {tv nv v : Value} {wb mb : Nat} (fid : Nat) (p : Int → Rng → Rng) (w : World) (hw : LwKn w wb mb l tv nv v [])
    (eg : ∀ args w, (callFunc fid args).run Try.prog w = .ok (.enter fid args) w)
    (hp : ∀ (d : Int) (r : Rng) (W : World), (0 ≤ d ∧ d ≤ 350) ∧ 0 ≤ r.1 ∧ r.1 ≤ r.2 ∧ r.2 ≤ 2000 → Calls Try.prog fid #[acv d r] W (PV (rv (p d r)) W)) :
    Calls Try.prog 25 #[.agg #[.func (.func fid) #[] #[]], .pointer (some ⟨wb, 0, none⟩)] w (fun e w' => ∃ u, e = .returned u ∧ w'.ownsRow w.heap.size 31 2 u (bndL p l (duesT l)).length (pairCells (bndL p l (duesT l))) ∧ Below w.heap.size w w') := by
  obtain ⟨vo, vc, rfl⟩ := hw.work.truth.open
  have hF := soundF_of hS.field
  have hlen : (duesT l).length ≤ 2500 := Nat.le_trans (duesTo_len l _) (truthsF_count hF [])
  have hw0 := hF.weed0
  have hw3 := hF.weed1
  obtain ⟨n, hn⟩ : ∃ n : Nat, l.field.weeders.toNat = n := ⟨_, rfl⟩
  have hn1 : 1 ≤ n := by omega
  have hn3 : n ≤ 3 := by omega
  have HN := Lib.hid hn
  have HS := Lib.hid hS
  have HP := Lib.hid hp
  obtain ⟨W1, hW1⟩ : ∃ W1, w.alloc (.cells #[.func (.func fid) #[] #[]] 63) = W1 := ⟨_, rfl⟩
  have hB1 : Below w.heap.size w W1 := by rw [← hW1]; exact bgoAlloc (Below.refl _ _) _
  have hk1 : W1.heap[w.heap.size]? = some (.cells #[.func (.func fid) #[] #[]] 63 (0, 0)) := by rw [← hW1]; exact heap_new0 _ _
  have hkn1 := hw.below hB1 (Nat.le_refl _)
  have hwb1 : wb < W1.heap.size := hkn1.work.lt
  have hwl1 : w.heap.size < W1.heap.size := (Array.getElem?_eq_some_iff.1 hk1).1
  have H1 := Lib.hid (And.intro hB1 (And.intro hk1 hkn1))
  obtain ⟨ds, hds⟩ : ∃ ds, duesT l = ds := ⟨_, rfl⟩
  have hck := hkn1.work.cells
  rw [hds] at hck hlen ⊢
  obtain ⟨c1, f1, l1⟩ := cells_of_block hck
  have HDS := Lib.hid hds
  clear hw hF hw0 hw3 hn hp hS hB1 hk1 hkn1 hds hck
  go_enter Try.func25, Try.ntmps25
  go_wp2_with fail
  (try rw [hW1])
  clear hW1
  go_loopw [5, 18] (fun v5 u wr => ∃ k : Nat, k ≤ ds.length ∧ u = .int .i64 k ∧ (∃ oo oc, v5 = .slice oo (bndTo p l k ds).length oc ∧ wr.ownsRow W1.heap.size 31 2 (.slice oo (bndTo p l k ds).length oc) (bndTo p l k ds).length (pairCells (bndTo p l k ds))) ∧ Below W1.heap.size W1 wr) (fun _ u _ => ds.length - (intOf u).toNat)
  case atStart => exact ⟨0, Nat.zero_le _, rfl, ⟨none, 0, rfl, ⟨rfl, .inl ⟨rfl, rfl⟩⟩⟩, Below.refl _ _⟩
  case round =>
    obtain ⟨k, hk, rfl, ⟨oo, oc, rfl, how⟩, hB⟩ := hrel
    by_cases hlt : k < ds.length
    · have hkn := H1.out.2.2.below hB (Nat.le_refl _)
      have hk1 := (hB.block _ hwl1).trans H1.out.2.1
      have htr := hkn.work.truth
      rw [HDS.out] at htr
      obtain ⟨b, off, y0, y1, y2, rfl, hbl, hys, hc0, hc1, hc2⟩ := dues_cell htr (by rw [← HDS.out]; exact duesT_three l) hlt
      have hacc := bndTo_len p l ds k hk
      rw [HN.out] at hacc
      have hsu := bndTo_succ p l hlt
      have hdm : ds[k] ∈ duesT l := by rw [HDS.out]; exact List.getElem_mem _
      obtain ⟨d, hd⟩ : ∃ d, ds[k] = d := ⟨_, rfl⟩
      rw [hd] at hsu hdm hys
      obtain ⟨acc, hac⟩ : ∃ acc, bndTo p l k ds = acc := ⟨_, rfl⟩
      rw [hac] at how hacc hsu
      rw [hac]
      have hlkI : (k : Int) < ds.length := by omega
      have HD := Lib.hid (And.intro hys hdm)
      have HSU := Lib.hid hsu
      have HAC := Lib.hid hacc
      have HX := Lib.hid (And.intro how (And.intro hB (And.intro hkn hk1)))
      have hsz := hB.size
      obtain ⟨s3, hs3⟩ : ∃ s3, wr.heap.size = s3 := ⟨_, rfl⟩
      clear how hB hkn hk1 htr hsu hys hdm hd hac hacc hk
      go_upto_region 5 with (fail)
      refine gworld fun W5 hW5 => ?_
      have hB5 : Below wr.heap.size wr W5 := by rw [hW5]; exact (by repeat (first | exact Below.refl _ _ | assumption | refine bgo ?_ (by assumption) | refine bgoAlloc ?_ _ | refine bgoDrew ?_ | refine bgoSet ?_ (by simp; omega) _))
      have hk5 : W5.heap[wr.heap.size]? = some (.cells #[iv y0, iv y1, iv y2] 79 (0, 0)) := by rw [hW5]; exact heap_new0 _ _
      have hkn5 := HX.out.2.2.1.below hB5 (Nat.le_refl _)
      have hag : aggI d = .agg #[iv y0, iv y1, iv y2] := by rw [HD.out.1]; rfl
      have HPA := Lib.hid (hag ▸ paid_at HS.out HD.out.2 hkn5)
      have h51 := (hB5.block _ (by omega)).trans HX.out.2.2.2
      have hB15 := bgo HX.out.2.1 hB5
      have how5 : W5.ownsRow W1.heap.size 31 2 (.slice oo acc.length oc) acc.length (pairCells acc) := owns_keep HX.out.1 fun g hg => hB5.block g (owns_ge HX.out.1 g hg).2
      have hog : ∀ g, (Value.slice oo acc.length oc).ownBlock = some g → g < s3 := fun g hg => by rw [← hs3]; exact (owns_ge HX.out.1 g hg).2
      rw [hs3] at hk5
      have hs35 : s3 < W5.heap.size := (Array.getElem?_eq_some_iff.1 hk5).1
      have hs13 : W1.heap.size ≤ s3 := by omega
      have H5 := Lib.hid (And.intro how5 (And.intro hB15 (And.intro hk5 (And.intro h51 hog))))
      obtain ⟨c5, f5, l5⟩ := cells_of_block hk5
      clear hW5 hB5 hk5 hkn5 h51 hB15 how5 hog hs3 hsz hc0 hc1 hc2 hbl HX hag
      go_wp2_with fail
      refine HPA.out.mono ?_
      rintro e W6 ⟨hb, hcase⟩
      obtain ⟨is, ps, pv, rfl, hpo, his, hps⟩ : ∃ (is : Bool) (ps : List Rng) (pv : Value), e = .returned (.tuple #[pv, .bool is]) ∧ W6.ownsRow W5.heap.size 31 2 pv ps.length (pairCells ps) ∧ canPay l [] d = is ∧ ps = if is = true then paidL l [] d else [] := by
        rcases hcase with ⟨hc, u, rfl, hu⟩ | ⟨hc, rfl⟩
        · exact ⟨true, paidL l [] d, u, rfl, hu, hc, by simp⟩
        · exact ⟨false, [], .slice none 0 0, rfl, ⟨rfl, .inl ⟨rfl, rfl⟩⟩, hc, by simp⟩
      obtain ⟨po, pc, rfl⟩ := owns_slice hpo
      obtain ⟨ns, hns⟩ : ∃ ns : List Rng, (if is = true then nowsL p l d else []) = ns := ⟨_, rfl⟩
      have hnl : ns.length = ps.length := by rw [← hns, hps]; cases is <;> simp [nowsL_len, paidL_len]
      have hpl : ps.length = if is = true then n else 0 := by rw [hps]; cases is <;> simp [paidL_len, HN.out]
      have hstep : bndTo p l (k + 1) ds = addTo acc ns ns.length := by
        rw [HSU.out]
        unfold bndStep
        rw [his, ← hns]
        cases is
        · simp [addTo_zero]
        · rw [if_pos rfl, if_pos rfl, addTo_all (by rw [nowsL_len, HN.out]; exact HAC.out)]
      have h66 := (hb.block _ (show s3 < W5.heap.size by omega)).trans H5.out.2.2.1
      have h61 := (hb.block _ (show w.heap.size < W5.heap.size by omega)).trans H5.out.2.2.2.1
      have how6 : W6.ownsRow W1.heap.size 31 2 (.slice oo acc.length oc) acc.length (pairCells acc) := owns_keep H5.out.1 fun g hg => hb.block g (by have := H5.out.2.2.2.2 g hg; omega)
      have hs56 := hb.size
      have H6 := Lib.hid (And.intro how6 (And.intro (bgo H5.out.2.1 hb) (And.intro h66 (And.intro h61 hpo))))
      have HIS := Lib.hid (And.intro his (And.intro hps hns))
      have HNL := Lib.hid (And.intro hnl hpl)
      have HST := Lib.hid hstep
      have hp3 : ps.length ≤ 3 := by rw [hpl]; split <;> omega
      have hps56 := Lib.hid hs56
      clear hb hcase hpo his hps hns hnl hpl hstep h66 h61 how6 c5 f5 l5
      go_wp2_with fail
      go_loopw [5, 30] (fun v5 u wq => ∃ i : Nat, i ≤ ps.length ∧ u = .int .i64 i ∧ (∃ oo oc, v5 = .slice oo (addTo acc ns i).length oc ∧ wq.ownsRow W1.heap.size 31 2 (.slice oo (addTo acc ns i).length oc) (addTo acc ns i).length (pairCells (addTo acc ns i)) ∧ (∀ g, (Value.slice oo (addTo acc ns i).length oc).ownBlock = some g → g < s3 ∨ W6.heap.size ≤ g)) ∧ Below W1.heap.size W1 wq ∧
        (∀ b, s3 ≤ b → b < W6.heap.size → wq.heap[b]? = W6.heap[b]?) ∧ W6.heap.size ≤ wq.heap.size) (fun _ u _ => ps.length - (intOf u).toNat)
      case atStart =>
        refine ⟨0, Nat.zero_le _, rfl, ⟨oo, oc, by rw [addTo_zero], ?_, ?_⟩, H6.out.2.1, fun b _ _ => rfl, Nat.le_refl _⟩
        · rw [addTo_zero]; exact H6.out.1
        · rw [addTo_zero]; exact fun g hg => .inl (H5.out.2.2.2.2 g hg)
      case round =>
        obtain ⟨i, hi, rfl, ⟨oo2, oc2, rfl, how, hog⟩, hBq, hkeep, hszq⟩ := hrel
        by_cases hlt2 : i < ps.length
        · have hist : is = true := by
            have := HNL.out.2
            cases is
            · rw [if_neg (by simp)] at this; omega
            · rfl
          have hin : i < n := by have := HNL.out.2; rw [hist] at this; simp at this; omega
          have hpv := SlAt.of_owns (owns_keep (w' := wr) H6.out.2.2.2.2 fun g hg => hkeep g (by have := (owns_ge H6.out.2.2.2.2 g hg).1; omega) (owns_ge H6.out.2.2.2.2 g hg).2)
          obtain ⟨gp, po', hvp, hgp, q0, q1⟩ := PairsAt.cell hpv hlt2
          subst hvp
          have hk6 := (hkeep s3 (Nat.le_refl _) (by omega)).trans H6.out.2.2.1
          have hcell := cell_of_ints (show wr.heap[s3]? = some (.cells (intCells d).toArray 79 (0, 0)) by rw [HD.out.1]; exact hk6) (show i < d.length by rw [HD.out.1]; simp; omega)
          have hd3 : i < d.length := by rw [HD.out.1]; simp; omega
          have hgd : d.getD i 0 = d[i] := by simp [List.getD, hd3]
          have hdb := duesT_bd HS.out HD.out.2 i (by omega)
          have hiw : i < l.field.weeders.toNat := by rw [HN.out]; exact hin
          have hpd := paidL_bd HS.out HD.out.2 (HIS.out.1.trans hist) hiw
          have hpe : ps[i] = (paidL l [] d).getD i (0, 0) := by
            have h1 := HIS.out.2.1
            rw [hist, if_pos rfl] at h1
            subst h1
            simp [List.getD, hlt2]
          have hin2 : i < ns.length := by rw [HNL.out.1]; exact hlt2
          have hne : ns[i] = p (d[i]) ps[i] := by
            have h1 := HIS.out.2.2
            rw [hist, if_pos rfl] at h1
            subst h1
            rw [nowsL_get, hpe, hgd]
          rw [← hpe] at hpd
          rw [hgd] at hdb
          have h1w := (hBq.block _ hwl1).trans H1.out.2.1
          have hlenA := addTo_len (acc := acc) (nows := ns) (i := i) (by
            have h1 := HAC.out
            have h2 := HNL.out
            rw [hist] at h2
            simp at h2
            rcases h1 with h | h
            · exact .inl h
            · exact .inr (by omega)) (by omega)
          have hold := fun (ha : acc ≠ []) (h : acc.length = ns.length) => addTo_old ha h hin2
          generalize hyi : d[i]'hd3 = y at *
          generalize hri : ps[i] = r at *
          generalize hxi : ns[i] = x at *
          have HPF := Lib.hid (hne ▸ HP.out y r)
          have HHP := Lib.hid (And.intro hpd hdb)
          have HOLD := Lib.hid (And.intro hold hxi)
          have HLA := Lib.hid hlenA
          have HX := Lib.hid (And.intro how (And.intro hog (And.intro hBq (And.intro hkeep hszq))))
          have hltI : (i : Int) < ps.length := by omega
          have hi3 : i < 3 := by omega
          have hi3I : (i : Int) < 3 := by omega
          obtain ⟨e1, e2, e3⟩ := cells_of_block h1w
          have HW1 := Lib.hid h1w
          have hs3l : s3 < wr.heap.size := by omega
          clear how hog hBq hkeep hszq hpv hk6 hgd hdb hpd hpe hne h1w hlenA hold hyi hri hxi hd3 hiw
          cases hist
          go_upto_region 9 with (fail)
          refine gworld fun W9 hW9 => ?_
          have hB9 : Below wr.heap.size wr W9 := by rw [hW9]; exact (by repeat (first | exact Below.refl _ _ | assumption | refine bgo ?_ (by assumption) | refine bgoAlloc ?_ _ | refine bgoDrew ?_ | refine bgoSet ?_ (by simp; omega) _))
          have hk9 : W9.heap[wr.heap.size]? = some (.cells #[iv r.1, iv r.2] 31 (0, 0)) := by rw [hW9]; exact heap_new0 _ _
          have hc9 := (hB9.cell (p := ⟨s3, i, none⟩) hs3l).trans hcell
          obtain ⟨i1, i2, i3⟩ := cells_of_block ((hB9.block _ e3).trans HW1.out)
          have hs9 := hB9.size
          obtain ⟨g1, g2, g3⟩ := cells_of_block hk9
          have hs3l9 : s3 < W9.heap.size := by omega
          have HB9 := Lib.hid hB9
          clear hW9 hB9 hcell e1 e2 e3 q0 q1
          have HK9 := Lib.hid hk9
          clear hk9
          refine wp_region_rg 9 [] none [(7, Spec.val (rv x)), (8, Spec.block W9.heap.size #[iv 0, iv 0] 31)] (by as_aux_lemma => kernel_rfl) (by as_aux_lemma => kernel_rfl) ?_
          simp only [List.take_succ_cons, List.take_zero, List.drop_succ_cons, List.drop_zero]
          repeat (first | (refine tree_det (by rfl) _ (by rfl) (fun W hW => by go_simp; (try simp (disch := omega) only [IntWalk.i64_in]); try rfl) ?_; simp only [Act.put, List.setIfInBounds_toArray, List.set_cons_succ, List.set_cons_zero]) | (refine tree_skip (by rfl) (by rfl) ?_; simp only [Act.put, List.setIfInBounds_toArray, List.set_cons_succ, List.set_cons_zero]))
          refine tree_val _ (by rfl) (by rfl) fid #[acv y r] (fun W hW => by go_simp; (try simp only [eg]); try rfl) (fun W hE hF => by exact HPF.out W ⟨HHP.out.2, HHP.out.1⟩) ?_
          simp only [Act.put, List.setIfInBounds_toArray, List.set_cons_succ, List.set_cons_zero]
          refine tree_block W9.heap.size _ _ (by rfl) (Nat.le_refl _) (by rfl) (by simp) (by simp) (fun W hW => by go_simp; try rfl) (fun b12 => ?_)
          simp only [Act.put, List.setIfInBounds_toArray, List.set_cons_succ, List.set_cons_zero]
          repeat (first | (refine tree_det (by rfl) _ (by rfl) (fun W hW => by go_simp; (try simp (disch := omega) only [IntWalk.i64_in]); try rfl) ?_; simp only [Act.put, List.setIfInBounds_toArray, List.set_cons_succ, List.set_cons_zero]) | (refine tree_skip (by rfl) (by rfl) ?_; simp only [Act.put, List.setIfInBounds_toArray, List.set_cons_succ, List.set_cons_zero]))
          intro WA hE hF
          have hE' : Ext [] W9 WA := hE
          obtain ⟨c12, hb12, hge12, hk12⟩ := hF _ (List.Mem.head _)
          cases hb12
          obtain ⟨x0, x1⟩ := x
          obtain ⟨j1, j2, j3⟩ := cells_of_block hk12
          have HEA := Lib.hid hE'
          have HKA := Lib.hid hk12
          clear hE hF hE' hk12 g1 g2 g3 i1 i2 i3 hc9
          go_upto_region 10 with (fail)
          refine gworld fun WB hWB => ?_
          have hB9B : Below W9.heap.size W9 WB := by rw [hWB]; exact bgoSet (bgoSet HEA.out.below hge12 _) hge12 _
          have hkB : WB.heap[b12]? = some (.cells #[iv x0, iv x1] 31 (0, 0)) := by rw [hWB]; exact set_block (set_block HKA.out _) _
          have hBB : Below wr.heap.size wr WB := bgo HB9.out hB9B
          have hownB : WB.ownsRow W1.heap.size 31 2 (.slice oo2 (addTo acc ns i).length oc2) (addTo acc ns i).length (pairCells (addTo acc ns i)) := owns_keep HX.out.1 fun g hg => hBB.block g (owns_ge HX.out.1 g hg).2
          have hBB1 := bgo HX.out.2.2.1 hBB
          have hkeepB : ∀ b, s3 ≤ b → b < W6.heap.size → WB.heap[b]? = W6.heap[b]? := fun b hb1 hb2 => (hBB.block b (by have := HX.out.2.2.2.2; omega)).trans (HX.out.2.2.2.1 b hb1 hb2)
          have hszB : W6.heap.size ≤ WB.heap.size := Nat.le_trans HX.out.2.2.2.2 hBB.size
          have HB := Lib.hid (And.intro hownB (And.intro HX.out.2.1 (And.intro hBB1 (And.intro hkB (And.intro hkeepB hszB)))))
          obtain ⟨j1, j2, j3⟩ := cells_of_block hkB
          clear hWB hB9B hBB hownB hBB1 hkeepB hszB HEA HKA
          have HLB := Lib.hid HLA.out
          obtain ⟨L, hL⟩ : ∃ L, addTo acc ns i = L := ⟨_, rfl⟩
          have hgb : ∀ g, (Value.slice oo2 (addTo acc ns i).length oc2).ownBlock = some g → g ≠ b12 ∧ W1.heap.size ≤ g := fun g hg => by
            have h1 := owns_ge HX.out.1 g hg
            have h2 := HB9.out.size
            omega
          have HGB := Lib.hid hgb
          have HOL := Lib.hid HOLD.out
          rw [hL] at HB HLB HGB HOL ⊢
          have HL := Lib.hid hL
          clear hgb HLA HX HOLD HB9 HK9 hL
          by_cases ha : acc = []
          · have hm : L.length = i := by rw [HLB.out, if_pos ha]
            have hmb : ((L.length : Int) == (i : Int)) = true := by rw [beq_iff_eq]; omega
            have HAN : Hid (addTo acc ns (i + 1) = L ++ [(x0, x1)]) := Lib.hid (by
              have h1 := HOL.out.2
              subst ha
              rw [addTo_new hin2, h1, HL.out])
            have HM := Lib.hid hm
            clear ha hm
            go_upto_region 11 with (fail)
            clear hmb
            have hL3 : L.length ≤ 3 := by have := HM.out; omega
            have hszw : W1.heap.size ≤ WB.heap.size := HB.out.2.2.1.size
            go_wp2_with (at_builtin; refine wpList_append_at rfl _ _ tGRanges rfl W1.heap.size (.slice oo2 L.length oc2) L.length (pairCells L) rfl ?_ (.slice (some ⟨WB.heap.size, 0, none⟩) 1 1) 1 (pairCells [(x0, x1)]) rfl ?_ (one_pairs _) (by omega) (by omega) (by simp; omega) ?_)
            · exact owns_ext (Ms := []) HB.out.1 (Ext.of_below ((Below.refl _ _).alloc (Nat.le_refl _) _)) (by simp)
            · exact SlAt.of_block 2 1 (heap_new0 _ _) rfl (by decide)
            · intro v' Wc hown hgr hcase
              obtain ⟨oo3, oc3, rfl⟩ := owns_slice hown
              have e3 : L.length + 1 = (L ++ [(x0, x1)]).length := by simp
              rw [← pairCells_snoc, e3] at hown
              rw [e3] at hcase ⊢
              have hwB : Below WB.heap.size WB (WB.alloc (.cells #[iv x0, iv x1] 31)) := bgoAlloc (Below.refl _ _) _
              have hkc : ∀ b, b < WB.heap.size → (∀ g, (Value.slice oo2 L.length oc2).ownBlock = some g → g ≠ b) → Wc.heap[b]? = WB.heap[b]? := fun b hb hn => (hgr.block b (by simp; omega) (fun e => hn b (by simpa using e.symm) rfl)).trans (hwB.block b hb)
              have hoc : Hid (Wc.ownsRow W1.heap.size 31 2 (.slice oo3 (L ++ [(x0, x1)]).length oc3) (L ++ [(x0, x1)]).length (pairCells (L ++ [(x0, x1)])) ∧ (∀ g, (Value.slice oo3 (L ++ [(x0, x1)]).length oc3).ownBlock = some g → g < s3 ∨ W6.heap.size ≤ g) ∧ Below W1.heap.size W1 Wc ∧
                  Wc.heap[b12]? = some (.cells #[iv x0, iv x1] 31 (0, 0)) ∧ (∀ b, s3 ≤ b → b < W6.heap.size → Wc.heap[b]? = W6.heap[b]?) ∧ W6.heap.size ≤ Wc.heap.size) := Lib.hid (by
                refine ⟨hown, fun g hg => ?_, Below.grown (bgo HB.out.2.2.1 hwB) hgr (by have := hwB.size; omega) (fun k e => (HGB.out k e).2), (hkc b12 (Array.getElem?_eq_some_iff.1 HB.out.2.2.2.1).1 (fun g hg => (HGB.out g hg).1)).trans HB.out.2.2.2.1, fun b hb1 hb2 => ?_, ?_⟩
                · rcases hcase with h | h
                  · rw [h] at hg; exact HB.out.2.1 g hg
                  · rw [h] at hg
                    have := HB.out.2.2.2.2.2
                    have : WB.heap.size + 1 = g := by simpa using hg
                    right; omega
                · have := HB.out.2.2.2.2.2
                  exact (hkc b (by omega) (fun g hg => by have := HB.out.2.1 g hg; omega)).trans (HB.out.2.2.2.2.1 b hb1 hb2)
                · have := HB.out.2.2.2.2.2
                  have := hgr.size
                  have := hwB.size
                  omega)
              have HOC := hoc
              have HLI : Hid (i < (L ++ [(x0, x1)]).length) := Lib.hid (by have := HM.out; simp; omega)
              have HLZ : Hid ((L ++ [(x0, x1)])[i]'HLI.out = (x0, x1)) := Lib.hid (by
                have := HM.out
                subst this
                simp)
              have HLS : Hid ((L ++ [(x0, x1)]).set i (widR (x0, x1) (x0, x1)) = addTo acc ns (i + 1)) := Lib.hid (by
                rw [HAN.out]
                have := HM.out
                subst this
                rw [List.set_append_right _ _ (Nat.le_refl _), Nat.sub_self]
                simp [widR])
              clear hown hgr hcase e3 hwB hkc hoc hL3 hszw j1 j2 j3 HB HGB HOL HLB HAN
              generalize L ++ [(x0, x1)] = L3 at *
              go_upto_region 12 with (fail)
              have hown9 : Wc.ownsRow W1.heap.size 31 2 (.slice oo3 (L3).length oc3) (L3).length (pairCells (L3)) := HOC.out.1
              obtain ⟨gb, c2, hg2, hgb2, hgl2, ⟨s0, s1⟩, hfr2⟩ := owns_pair hown9 HLI.out
              rw [HLZ.out] at s0 s1
              (try simp only at s0 s1)
              obtain ⟨rfl, rfl⟩ : oo3 = some ⟨gb, 0, none⟩ ∧ oc3 = c2 := by simp at hg2; exact hg2
              obtain ⟨e1, e2, e3⟩ := cells_of_block HOC.out.2.2.2.1
              have hiL : (i : Int) < ((L3).length : Int) := by have := HLI.out; omega
              clear hown9 hg2 hfr2
              refine wp_region_rg 9 [] none [(7, Spec.val (rv (widR (x0, x1) (x0, x1))))] (by as_aux_lemma => kernel_rfl) (by as_aux_lemma => kernel_rfl) ?_
              simp only [List.take_succ_cons, List.take_zero, List.drop_succ_cons, List.drop_zero]
              repeat (first | (refine tree_det (by rfl) _ (by rfl) (fun W hW => by go_simp; (try simp (disch := omega) only [IntWalk.i64_in]); try rfl) ?_; simp only [Act.put, List.setIfInBounds_toArray, List.set_cons_succ, List.set_cons_zero]) | (refine tree_skip (by rfl) (by rfl) ?_; simp only [Act.put, List.setIfInBounds_toArray, List.set_cons_succ, List.set_cons_zero]))
              refine tree_val _ (by rfl) (by rfl) 32 _ (fun W hW => by go_simp; try rfl) (fun W hE hF => by exact gwider_any (x0, x1) (x0, x1) W) ?_
              simp only [Act.put, List.setIfInBounds_toArray, List.set_cons_succ, List.set_cons_zero]
              repeat (first | (refine tree_det (by rfl) _ (by rfl) (fun W hW => by go_simp; (try simp (disch := omega) only [IntWalk.i64_in]); try rfl) ?_; simp only [Act.put, List.setIfInBounds_toArray, List.set_cons_succ, List.set_cons_zero]) | (refine tree_skip (by rfl) (by rfl) ?_; simp only [Act.put, List.setIfInBounds_toArray, List.set_cons_succ, List.set_cons_zero]))
              intro W12 hE hF
              have hE' : Ext [] Wc W12 := hE
              have hB12 : Below Wc.heap.size Wc W12 := hE'.below
              have hown12 : W12.ownsRow W1.heap.size 31 2 (.slice (some ⟨gb, 0, none⟩) (L3).length oc3) (L3).length (pairCells (L3)) := owns_ext (Ms := []) HOC.out.1 hE' (by simp)
              have hset := owns_set_pair hown12 HLI.out (widR (x0, x1) (x0, x1))
              obtain ⟨g3, c3, hg3, _, hgl3, ⟨t0, t1⟩, hfr3⟩ := owns_pair hown12 HLI.out
              obtain ⟨rfl, rfl⟩ : gb = g3 ∧ oc3 = c3 := by simp at hg3; exact hg3
              rw [HLS.out] at hset
              have hlen : (L3).length = (addTo acc ns (i + 1)).length := by rw [← HLS.out, List.length_set]
              have hgn : gb < s3 ∨ W6.heap.size ≤ gb := HOC.out.2.1 gb rfl
              have HST := Lib.hid (And.intro hset (And.intro hlen (And.intro (bgo HOC.out.2.2.1 hB12) (And.intro hB12 (And.intro hgn hgb2)))))
              clear hE hF hE' hown12 hset hlen hB12 hg3 hgn e1 e2 e3 s0 s1
              go_wp2_with fail
              go_roundw
              case rel =>
                refine ⟨i + 1, by omega, by go_num, ⟨some ⟨gb, 0, none⟩, oc3, by rw [← HST.out.2.1], ?_, ?_⟩, ?_, ?_, ?_⟩
                · have := HST.out.1
                  rw [HST.out.2.1] at this
                  exact this
                · intro g hg
                  have : gb = g := by simpa [Value.ownBlock] using hg
                  rw [← this]; exact HST.out.2.2.2.2.1
                · exact bgoSet (bgoSet HST.out.2.2.1 HST.out.2.2.2.2.2 _) HST.out.2.2.2.2.2 _
                · intro b hb1 hb2
                  have hbg : b ≠ gb := by have := HST.out.2.2.2.2.1; omega
                  have h1 := HOC.out.2.2.2.2.1 b hb1 hb2
                  have h2 := HST.out.2.2.2.1.block b (by have := HOC.out.2.2.2.2.2; omega)
                  exact (Below.heap_setCell _ _ _ _ hbg).trans ((Below.heap_setCell _ _ _ _ hbg).trans (h2.trans h1))
                · have := HOC.out.2.2.2.2.2
                  have := HST.out.2.2.2.1.size
                  simp
                  omega
              case measure => simp [intOf]; omega
          · have hm : L.length = ns.length := by rw [HLB.out, if_neg ha]
            have hneb : ((L.length : Int) == (i : Int)) = false := by rw [beq_eq_false_iff_ne]; omega
            have hal : acc.length = ns.length := by
              have h2 := HNL.out
              rw [if_pos rfl] at h2
              rcases HAC.out with h | h
              · exact absurd h ha
              · omega
            have HLI : Hid (i < L.length) := Lib.hid (by omega)
            have hz := HOL.out.1 ha hal
            obtain ⟨z, hzd⟩ : ∃ z : Rng, acc.getD i (0, 0) = z := ⟨_, rfl⟩
            rw [hzd] at hz
            have HLZ : Hid (L[i]'HLI.out = z) := Lib.hid (by
              rw [← hzd, List.getD_eq_getElem?_getD, ← hz.1, List.getElem?_eq_getElem HLI.out]
              rfl)
            have HLS : Hid (L.set i (widR z (x0, x1)) = addTo acc ns (i + 1)) := Lib.hid hz.2.symm
            have HM := Lib.hid hm
            clear ha hm hal hz hzd HOL HLB HGB HL
            go_upto_region 12 with (fail)
            clear hneb
            have HOC := HB
            clear HB
            clear j1 j2 j3
            have hown9 : WB.ownsRow W1.heap.size 31 2 (.slice oo2 (L).length oc2) (L).length (pairCells (L)) := HOC.out.1
            obtain ⟨gb, c2, hg2, hgb2, hgl2, ⟨s0, s1⟩, hfr2⟩ := owns_pair hown9 HLI.out
            rw [HLZ.out] at s0 s1
            (try simp only at s0 s1)
            obtain ⟨rfl, rfl⟩ : oo2 = some ⟨gb, 0, none⟩ ∧ oc2 = c2 := by simp at hg2; exact hg2
            obtain ⟨e1, e2, e3⟩ := cells_of_block HOC.out.2.2.2.1
            have hiL : (i : Int) < ((L).length : Int) := by have := HLI.out; omega
            clear hown9 hg2 hfr2
            refine wp_region_rg 9 [] none [(7, Spec.val (rv (widR z (x0, x1))))] (by as_aux_lemma => kernel_rfl) (by as_aux_lemma => kernel_rfl) ?_
            simp only [List.take_succ_cons, List.take_zero, List.drop_succ_cons, List.drop_zero]
            repeat (first | (refine tree_det (by rfl) _ (by rfl) (fun W hW => by go_simp; (try simp (disch := omega) only [IntWalk.i64_in]); try rfl) ?_; simp only [Act.put, List.setIfInBounds_toArray, List.set_cons_succ, List.set_cons_zero]) | (refine tree_skip (by rfl) (by rfl) ?_; simp only [Act.put, List.setIfInBounds_toArray, List.set_cons_succ, List.set_cons_zero]))
            refine tree_val _ (by rfl) (by rfl) 32 _ (fun W hW => by go_simp; try rfl) (fun W hE hF => by exact gwider_any z (x0, x1) W) ?_
            simp only [Act.put, List.setIfInBounds_toArray, List.set_cons_succ, List.set_cons_zero]
            repeat (first | (refine tree_det (by rfl) _ (by rfl) (fun W hW => by go_simp; (try simp (disch := omega) only [IntWalk.i64_in]); try rfl) ?_; simp only [Act.put, List.setIfInBounds_toArray, List.set_cons_succ, List.set_cons_zero]) | (refine tree_skip (by rfl) (by rfl) ?_; simp only [Act.put, List.setIfInBounds_toArray, List.set_cons_succ, List.set_cons_zero]))
            intro W12 hE hF
            have hE' : Ext [] WB W12 := hE
            have hB12 : Below WB.heap.size WB W12 := hE'.below
            have hown12 : W12.ownsRow W1.heap.size 31 2 (.slice (some ⟨gb, 0, none⟩) (L).length oc2) (L).length (pairCells (L)) := owns_ext (Ms := []) HOC.out.1 hE' (by simp)
            have hset := owns_set_pair hown12 HLI.out (widR z (x0, x1))
            obtain ⟨g3, c3, hg3, _, hgl3, ⟨t0, t1⟩, hfr3⟩ := owns_pair hown12 HLI.out
            obtain ⟨rfl, rfl⟩ : gb = g3 ∧ oc2 = c3 := by simp at hg3; exact hg3
            rw [HLS.out] at hset
            have hlen : (L).length = (addTo acc ns (i + 1)).length := by rw [← HLS.out, List.length_set]
            have hgn : gb < s3 ∨ W6.heap.size ≤ gb := HOC.out.2.1 gb rfl
            have HST := Lib.hid (And.intro hset (And.intro hlen (And.intro (bgo HOC.out.2.2.1 hB12) (And.intro hB12 (And.intro hgn hgb2)))))
            clear hE hF hE' hown12 hset hlen hB12 hg3 hgn e1 e2 e3 s0 s1
            go_wp2_with fail
            go_roundw
            case rel =>
              refine ⟨i + 1, by omega, by go_num, ⟨some ⟨gb, 0, none⟩, oc2, by rw [← HST.out.2.1], ?_, ?_⟩, ?_, ?_, ?_⟩
              · have := HST.out.1
                rw [HST.out.2.1] at this
                exact this
              · intro g hg
                have : gb = g := by simpa [Value.ownBlock] using hg
                rw [← this]; exact HST.out.2.2.2.2.1
              · exact bgoSet (bgoSet HST.out.2.2.1 HST.out.2.2.2.2.2 _) HST.out.2.2.2.2.2 _
              · intro b hb1 hb2
                have hbg : b ≠ gb := by have := HST.out.2.2.2.2.1; omega
                have h1 := HOC.out.2.2.2.2.1 b hb1 hb2
                have h2 := HST.out.2.2.2.1.block b (by have := HOC.out.2.2.2.2.2; omega)
                exact (Below.heap_setCell _ _ _ _ hbg).trans ((Below.heap_setCell _ _ _ _ hbg).trans (h2.trans h1))
              · have := HOC.out.2.2.2.2.2
                have := HST.out.2.2.2.1.size
                simp
                omega
            case measure => simp [intOf]; omega
        · have hip : i = ps.length := by omega
          subst hip
          rw [← HNL.out.1, ← HST.out] at how hog
          rw [← HNL.out.1, ← HST.out]
          have HF := Lib.hid (And.intro how hBq)
          clear how hog hBq hkeep hszq
          go_wp2_with fail
          go_roundw
          case rel => exact ⟨k + 1, by omega, by go_num, ⟨oo2, oc2, rfl, HF.out.1⟩, HF.out.2⟩
          case measure => simp [intOf]; omega
    · have hkd : k = ds.length := by omega
      subst hkd
      have HF := Lib.hid (And.intro how hB)
      clear how hB
      go_wp2_with fail
      go_returns
      exact ⟨_, by simp, owns_base HF.out.1 (by omega), bgo H1.out.1 HF.out.2⟩
end Go.Proofs.Ytechgmnkcijahaa

namespace Go.Proofs.Ytechgmnkcijahaa
open Go.RowKit Go.RG Go.SL Go.Shelf Cou Go.TB
set_option maxHeartbeats 400000
set_option maxRecDepth 10000

def PartPost (p : Int → Rng → Rng) (l : LedgerD) (w : World) (e : Ending) (w' : World) : Prop :=
  Below w.heap.size w w' ∧ ((askedErr l true ≠ 0 ∧ e = .returned (.tuple #[.slice none 0 0, iv (askedErr l true)])) ∨
    (askedErr l true = 0 ∧ ∃ u, e = .returned (.tuple #[u, iv 0]) ∧ PairsAt w' u (bndL p l (duesT l))))

theorem pasked_any (l : LedgerD) (tv nv : Value) (fid : Nat) (p : Int → Rng → Rng) (w : World) (ht : TalliesAt w tv l.field.tallies) (hn : TriplesAt w nv l.notes)
    (eg : ∀ args w, (callFunc fid args).run Try.prog w = .ok (.enter fid args) w)
    (hp : ∀ (d : Int) (r : Rng) (W : World), (0 ≤ d ∧ d ≤ 350) ∧ 0 ≤ r.1 ∧ r.1 ≤ r.2 ∧ r.2 ≤ 2000 → Calls Try.prog fid #[acv d r] W (PV (rv (p d r)) W)) :
    Calls Try.prog 21 #[.agg #[.func (.func fid) #[] #[]], lv l tv nv] w (PartPost p l w) := by
  have HC := Lib.hid (asked_any l tv nv true ((w.alloc (.cells #[.func (.func fid) #[] #[]] 63)).alloc (.cells (lcells l tv nv) 34)) ((ht.alloc _).alloc _) ((hn.alloc _).alloc _))
  have HE := Lib.hid eg
  have HP := Lib.hid hp
  clear ht hn hp eg
  obtain ⟨q, hq⟩ : ∃ q, askedErr l true = q := ⟨_, rfl⟩
  have HQ := Lib.hid hq
  clear hq
  go_enter Try.func21, Try.ntmps21
  go_wp2_with fail
  refine HC.out.mono ?_
  rintro e w1 ⟨hb, ⟨hne, rfl⟩ | ⟨h0, wb, mb, v, rfl, _, _, hok⟩⟩
  · rw [HQ.out] at hne ⊢
    have hqb : (q != 0) = true := by simpa using hne
    have HB := Lib.hid (And.intro (show Below w.heap.size w w1 from (by repeat (first | exact Below.refl _ _ | assumption | refine bgo ?_ (by assumption) | refine bgoAlloc ?_ _ | refine bgoDrew ?_ | refine bgoSet ?_ (by simp; omega) _))) hne)
    clear hb hne
    go_wp2_with fail
    go_returns
    exact ⟨HB.out.1, .inl ⟨by rw [HQ.out]; exact HB.out.2, by rw [HQ.out]; simp⟩⟩
  · have hk := (hb.block w.heap.size (by simp; omega)).trans ((Below.heap_alloc _ _ _ (by simp)).trans (heap_new0 w (.cells #[.func (.func fid) #[] #[]] 63)))
    have HBN := Lib.hid (bounds_any (asked_sound h0).1 fid p w1 hok HE.out HP.out)
    have HB := Lib.hid (And.intro (show Below w.heap.size w w1 from (by repeat (first | exact Below.refl _ _ | assumption | refine bgo ?_ (by assumption) | refine bgoAlloc ?_ _ | refine bgoDrew ?_ | refine bgoSet ?_ (by simp; omega) _))) h0)
    obtain ⟨c1, f1, l1⟩ := cells_of_block hk
    clear hb hk hok h0
    go_wp2_with fail
    refine HBN.out.mono ?_
    rintro e w2 ⟨u, rfl, hu, hb⟩
    obtain ⟨uo, uc, rfl⟩ := owns_slice hu
    have HX := Lib.hid (And.intro (bgo HB.out.1 hb) (SlAt.of_owns hu))
    clear hb hu c1 f1 l1
    go_wp2_with fail
    go_returns
    exact ⟨HX.out.1, .inr ⟨HB.out.2, _, by simp, HX.out.2⟩⟩

theorem Earned_any (l : LedgerD) (tv nv : Value) (w : World) (ht : TalliesAt w tv l.field.tallies) (hn : TriplesAt w nv l.notes) :
    Calls Try.prog 4 #[lv l tv nv] w (PartPost partE l w) := by
  have HC := Lib.hid (pasked_any l tv nv 20 partE (w.alloc (.cells (lcells l tv nv) 34)) (ht.alloc _) (hn.alloc _) (enters_of Try.func20 (by kernel_rfl) rfl) (fun d r W h => by first | exact earned_any d r W | (have := h; exact earned_any d r W)))
  clear ht hn
  go_enter Try.func4, Try.ntmps4
  go_wp2_with fail
  refine HC.out.mono ?_
  rintro e w1 ⟨hb, ⟨hne, rfl⟩ | ⟨h0, u, rfl, hu⟩⟩
  · obtain ⟨q, hq⟩ : ∃ q, askedErr l true = q := ⟨_, rfl⟩
    have HB := Lib.hid (And.intro (show Below w.heap.size w w1 from (by repeat (first | exact Below.refl _ _ | assumption | refine bgo ?_ (by assumption) | refine bgoAlloc ?_ _ | refine bgoDrew ?_ | refine bgoSet ?_ (by simp; omega) _))) (And.intro hne hq))
    rw [hq]
    clear hb hne hq
    go_wp2_with fail
    go_returns
    exact ⟨HB.out.1, .inl ⟨HB.out.2.1, by rw [HB.out.2.2]; simp⟩⟩
  · obtain ⟨uo, uc, rfl⟩ := hu.open
    have HB := Lib.hid (And.intro (show Below w.heap.size w w1 from (by repeat (first | exact Below.refl _ _ | assumption | refine bgo ?_ (by assumption) | refine bgoAlloc ?_ _ | refine bgoDrew ?_ | refine bgoSet ?_ (by simp; omega) _))) (And.intro h0 hu))
    clear hb h0 hu
    go_wp2_with fail
    go_returns
    exact ⟨HB.out.1, .inr ⟨HB.out.2.1, _, by simp, HB.out.2.2⟩⟩
theorem Paid_any (l : LedgerD) (tv nv : Value) (w : World) (ht : TalliesAt w tv l.field.tallies) (hn : TriplesAt w nv l.notes) :
    Calls Try.prog 42 #[lv l tv nv] w (PartPost partP l w) := by
  have HC := Lib.hid (pasked_any l tv nv 64 partP (w.alloc (.cells (lcells l tv nv) 34)) (ht.alloc _) (hn.alloc _) (enters_of Try.func64 (by kernel_rfl) rfl) (fun d r W h => by first | exact got_any d r W | (have := h; exact got_any d r W)))
  clear ht hn
  go_enter Try.func42, Try.ntmps42
  go_wp2_with fail
  refine HC.out.mono ?_
  rintro e w1 ⟨hb, ⟨hne, rfl⟩ | ⟨h0, u, rfl, hu⟩⟩
  · obtain ⟨q, hq⟩ : ∃ q, askedErr l true = q := ⟨_, rfl⟩
    have HB := Lib.hid (And.intro (show Below w.heap.size w w1 from (by repeat (first | exact Below.refl _ _ | assumption | refine bgo ?_ (by assumption) | refine bgoAlloc ?_ _ | refine bgoDrew ?_ | refine bgoSet ?_ (by simp; omega) _))) (And.intro hne hq))
    rw [hq]
    clear hb hne hq
    go_wp2_with fail
    go_returns
    exact ⟨HB.out.1, .inl ⟨HB.out.2.1, by rw [HB.out.2.2]; simp⟩⟩
  · obtain ⟨uo, uc, rfl⟩ := hu.open
    have HB := Lib.hid (And.intro (show Below w.heap.size w w1 from (by repeat (first | exact Below.refl _ _ | assumption | refine bgo ?_ (by assumption) | refine bgoAlloc ?_ _ | refine bgoDrew ?_ | refine bgoSet ?_ (by simp; omega) _))) (And.intro h0 hu))
    clear hb h0 hu
    go_wp2_with fail
    go_returns
    exact ⟨HB.out.1, .inr ⟨HB.out.2.1, _, by simp, HB.out.2.2⟩⟩
theorem Owed_any (l : LedgerD) (tv nv : Value) (w : World) (ht : TalliesAt w tv l.field.tallies) (hn : TriplesAt w nv l.notes) :
    Calls Try.prog 39 #[lv l tv nv] w (PartPost partO l w) := by
  have HC := Lib.hid (pasked_any l tv nv 24 partO (w.alloc (.cells (lcells l tv nv) 34)) (ht.alloc _) (hn.alloc _) (enters_of Try.func24 (by kernel_rfl) rfl) (fun d r W h => by first | exact owed_any d r W h | (have := h; exact owed_any d r W h)))
  clear ht hn
  go_enter Try.func39, Try.ntmps39
  go_wp2_with fail
  refine HC.out.mono ?_
  rintro e w1 ⟨hb, ⟨hne, rfl⟩ | ⟨h0, u, rfl, hu⟩⟩
  · obtain ⟨q, hq⟩ : ∃ q, askedErr l true = q := ⟨_, rfl⟩
    have HB := Lib.hid (And.intro (show Below w.heap.size w w1 from (by repeat (first | exact Below.refl _ _ | assumption | refine bgo ?_ (by assumption) | refine bgoAlloc ?_ _ | refine bgoDrew ?_ | refine bgoSet ?_ (by simp; omega) _))) (And.intro hne hq))
    rw [hq]
    clear hb hne hq
    go_wp2_with fail
    go_returns
    exact ⟨HB.out.1, .inl ⟨HB.out.2.1, by rw [HB.out.2.2]; simp⟩⟩
  · obtain ⟨uo, uc, rfl⟩ := hu.open
    have HB := Lib.hid (And.intro (show Below w.heap.size w w1 from (by repeat (first | exact Below.refl _ _ | assumption | refine bgo ?_ (by assumption) | refine bgoAlloc ?_ _ | refine bgoDrew ?_ | refine bgoSet ?_ (by simp; omega) _))) (And.intro h0 hu))
    clear hb h0 hu
    go_wp2_with fail
    go_returns
    exact ⟨HB.out.1, .inr ⟨HB.out.2.1, _, by simp, HB.out.2.2⟩⟩

end Go.Proofs.Ytechgmnkcijahaa

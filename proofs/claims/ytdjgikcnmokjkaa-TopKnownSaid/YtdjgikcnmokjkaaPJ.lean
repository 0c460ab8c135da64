/-
  Contracts of package weed, tenth part: Ask, ProveAsk, ProveTruth.
-/
import Derived.WalkKit
import Derived.WalkLawsBesides
import Derived.WalkSpells
import Derived.Outline
import Derived.Handy
import Derived.KernelRfl
import Derived.Lib.Hide
import Derived.Laws.CopyRow
import Derived.Test.YtdjgikcnmokjkaaPI
namespace Go.Proofs.Ytdjgikcnmokjkaa
open Go.RowKit Go.RG Go.SL Go.Shelf Cou Go.TB
set_option maxHeartbeats 400000
set_option maxRecDepth 10000

theorem askT_of {last : Int} {l : List Int} {k : Nat} (hlt : k < l.length) (hno : ∀ j, j < k → askT last (-1) l j = true) :
    askT last (-1) l k = (inB (l.getD k 0) 0 last && (k == 0 || !decide (l.getD k 0 ≤ l.getD (k - 1) 0))) := by
  cases k with
  | zero => simp [askT]
  | succ m =>
    have h1 := hno m (by omega)
    have h0 : 0 ≤ last := by
      have := hno 0 (by omega)
      simp [askT, inB] at this
      omega
    have h2 := askT_prev last h0 l m (fun j hj => hno j (by omega)) (by omega)
    simp only [askT, inB, Bool.and_eq_true, decide_eq_true_eq] at h1
    simp only [askT, List.getD_cons_succ, inB, Nat.add_sub_cancel]
    rw [Bool.eq_iff_iff]
    simp only [List.getD_eq_getElem?_getD] at h1 h2 ⊢
    simp
    omega

theorem isTurns_at {last : Int} {l : List Int} {k : Nat} (hlt : k < l.length) (h : askT last (-1) l k = false) : isTurns last l = false := by
  unfold isTurns
  rw [turnsFrom_all, List.all_eq_false]
  exact ⟨k, by simpa using hlt, by simp [h]⟩

theorem isTurns_all {last : Int} {l : List Int} (h : ∀ j, j < l.length → askT last (-1) l j = true) : isTurns last l = true := by
  unfold isTurns
  rw [turnsFrom_all, List.all_eq_true]
  exact fun j hj => h j (by simpa using hj)

theorem gworldC {P : Program} {f : FuncId} {args : Array Value} {R : Ending → World → Prop} {W : World} (h : ∀ W', W' = W → Calls P f args W' R) : Calls P f args W R := h W rfl

theorem ask1_any (f : FieldD) (tv : Value) (i : Int) (bf bi : Nat) (w : World) (hf : w.heap[bf]? = some (.cells (fcells f tv) 36 (0, 0))) (hi : w.heap[bi]? = some (.cells #[iv i] 3 (0, 0))) (h0 : -1000 ≤ f.weeders) (h1 : f.weeders ≤ 1000) :
    Calls Try.prog 45 #[.pointer (some ⟨bf, 0, none⟩), .pointer (some ⟨bi, 0, none⟩)] w (PV (.bool (inB i 0 (f.weeders - 1))) w) := by
  have HW := Lib.hid (isWeeder_any f tv i w h0 h1)
  obtain ⟨c1, f1, l1⟩ := cells_of_block hf
  obtain ⟨c2, f2, l2⟩ := cells_of_block hi
  clear hf hi
  go_enter Try.func45, Try.ntmps45
  go_wp2_with fail
  refine HW.out.mono ?_
  rintro e w' ⟨rfl, hb⟩
  go_wp2_with fail
  go_returns
  exact ⟨by simp, hb⟩
theorem pask1_any (f : FieldD) (tv : Value) (i : Int) (bf bi : Nat) (w : World) (hf : w.heap[bf]? = some (.cells (fcells f tv) 36 (0, 0))) (hi : w.heap[bi]? = some (.cells #[iv i] 3 (0, 0))) (h0 : -1000 ≤ f.weeders) (h1 : f.weeders ≤ 1000) :
    Calls Try.prog 50 #[.pointer (some ⟨bf, 0, none⟩), .pointer (some ⟨bi, 0, none⟩)] w (PV (.bool (inB i 0 (f.weeders - 1))) w) := by
  have HW := Lib.hid (isWeeder_any f tv i w h0 h1)
  obtain ⟨c1, f1, l1⟩ := cells_of_block hf
  obtain ⟨c2, f2, l2⟩ := cells_of_block hi
  clear hf hi
  go_enter Try.func50, Try.ntmps50
  go_wp2_with fail
  refine HW.out.mono ?_
  rintro e w' ⟨rfl, hb⟩
  go_wp2_with fail
  go_returns
  exact ⟨by simp, hb⟩

theorem ask2_any (f : FieldD) (hS : SoundF f) (tv v rvv : Value) (wb bn bp bi : Nat) (i : Int) (rows : List Int) (w : World) (hw : WkAt w wb f tv v (truthsF f [])) (hr : IntsAt w rvv rows) (hrows : ∀ r ∈ rows, 0 ≤ r ∧ r < 7)
    (hn : w.heap[bn]? = some (.cells #[.func (.func 47) #[] #[]] 102 (0, 0))) (hp : w.heap[bp]? = some (.cells #[.pointer (some ⟨wb, 0, none⟩)] 88 (0, 0))) (hi : w.heap[bi]? = some (.cells #[iv i] 3 (0, 0))) :
    Calls Try.prog 49 #[rvv, .pointer (some ⟨bn, 0, none⟩), .pointer (some ⟨bp, 0, none⟩), .pointer (some ⟨bi, 0, none⟩)] w (PV (.bool (settlesF f i rows)) w) := by
  have HW := Lib.hid (settles_any f hS tv v rvv wb i rows w hw hr hrows)
  obtain ⟨ro, rc, rfl⟩ := hr.open
  obtain ⟨c1, f1, l1⟩ := cells_of_block hn
  obtain ⟨c2, f2, l2⟩ := cells_of_block hp
  obtain ⟨c3, f3, l3⟩ := cells_of_block hi
  clear hn hp hi hw hr
  go_enter Try.func49, Try.ntmps49
  go_wp2_with fail
  refine HW.out.mono ?_
  rintro e w' ⟨rfl, hb⟩
  go_wp2_with fail
  go_returns
  exact ⟨by simp, hb⟩

def AskPostF (f : FieldD) (i : Int) (w : World) (e : Ending) (w' : World) : Prop :=
  Below w.heap.size w w' ∧ ((askFErr f (inB i 0 (f.weeders - 1)) ≠ 0 ∧ e = .returned (.tuple #[.slice none 0 0, iv (askFErr f (inB i 0 (f.weeders - 1)))])) ∨
    (askFErr f (inB i 0 (f.weeders - 1)) = 0 ∧ ∃ v, e = .returned (.tuple #[v, iv 0]) ∧ IntsAt w' v (askF f i)))

theorem wAsk_any (f : FieldD) (tv : Value) (i : Int) (w : World) (ht : TalliesAt w tv f.tallies) (h0 : -1000 ≤ f.weeders) (h1 : f.weeders ≤ 1000) :
    Calls Try.prog 13 #[fv f tv, iv i] w (AskPostF f i w) := by
  obtain ⟨o, c, rfl⟩ := ht.open
  have HA := Lib.hid (wasked_any f (.slice o f.tallies.length c) 45 #[.pointer (some ⟨w.heap.size, 0, none⟩), .pointer (some ⟨w.heap.size + 1, 0, none⟩)] (inB i 0 (f.weeders - 1)) ((w.alloc (.cells (fcells f (.slice o f.tallies.length c)) 36)).alloc (.cells #[iv i] 3)) ((ht.alloc _).alloc _)
    (enters_of Try.func45 (by kernel_rfl) rfl) (fun W hB => ask1_any f (.slice o f.tallies.length c) i _ _ W ((hB.block _ (by simp; omega)).trans ((Below.heap_alloc _ _ _ (by simp)).trans (heap_new0 _ _))) ((hB.block _ (by simp)).trans (heap_new1 _ _ _)) h0 h1))
  clear ht
  obtain ⟨q, hq⟩ : ∃ q, askFErr f (inB i 0 (f.weeders - 1)) = q := ⟨_, rfl⟩
  have HQ := Lib.hid hq
  go_enter Try.func13, Try.ntmps13
  go_wp2_with fail
  refine HA.out.mono ?_
  rintro e w1 ⟨hb, ⟨hne, rfl⟩ | ⟨h0, wb, v, rfl, hwb, hwk⟩⟩
  · have HB := Lib.hid (show Below w.heap.size w w1 from (by repeat (first | exact Below.refl _ _ | assumption | refine bgo ?_ (by assumption) | refine bgoAlloc ?_ _ | refine bgoDrew ?_ | refine bgoSet ?_ (by simp; omega) _)))
    rw [hq] at hne ⊢
    have HN := Lib.hid hne
    have hneb : (q == 0) = false := by simpa using hne
    clear hb hne hq
    go_wp2_with fail
    go_returns
    exact ⟨bgoAlloc HB.out _, .inl ⟨by rw [HQ.out]; exact HN.out, by rw [HQ.out]; simp⟩⟩
  have HB := Lib.hid (show Below w.heap.size w w1 from (by repeat (first | exact Below.refl _ _ | assumption | refine bgo ?_ (by assumption) | refine bgoAlloc ?_ _ | refine bgoDrew ?_ | refine bgoSet ?_ (by simp; omega) _)))
  obtain ⟨hS, hpos, _⟩ := ask_sound h0
  have hr0 := hS.rows0
  have hr7 := hS.rows1
  obtain ⟨n, hn⟩ : ∃ n : Nat, f.rows = n := ⟨f.rows.toNat, by omega⟩
  have hk0 := (hb.block w.heap.size (by simp; omega)).trans ((Below.heap_alloc (w.alloc (.cells (fcells f (.slice o f.tallies.length c)) 36)) (.cells #[iv i] 3) _ (by simp)).trans (heap_new0 _ _))
  have hk1 := (hb.block (w.heap.size + 1) (by simp)).trans (heap_new1 w (.cells (fcells f (.slice o f.tallies.length c)) 36) (.cells #[iv i] 3))
  obtain ⟨cc0, cf0, cl0⟩ := cells_of_block hk0
  have hsz1 := hb.size
  simp only [World.size_alloc] at hsz1
  have hn7 : n ≤ 7 := by omega
  have hask : askF f i = (shortL n (settlesF f i)).getD [] := by unfold askF askS; rw [hn]; rfl
  obtain ⟨cc, hcc⟩ := askS_some f i
  have hcc' : shortL n (settlesF f i) = some cc := by unfold askS at hcc; rw [hn] at hcc; exact hcc
  have HASK := Lib.hid (And.intro hask hcc')
  have HQ0 := Lib.hid h0
  have HWK := Lib.hid hwk
  have HS := Lib.hid hS
  have HK1 := Lib.hid (And.intro hk0 hk1)
  have HN := Lib.hid hn
  clear hb h0 hS hpos hq hask hcc hcc' hk0 hk1 hwk hn hr0
  go_wp2_with fail
  refine gworldC fun w2 hw2 => ?_
  have hB2 : Below w1.heap.size w1 w2 := by rw [hw2]; exact (by repeat (first | exact Below.refl _ _ | assumption | refine bgo ?_ (by assumption) | refine bgoAlloc ?_ _ | refine bgoDrew ?_ | refine bgoSet ?_ (by simp; omega) _))
  have hkp : w2.heap[w1.heap.size]? = some (.cells #[.pointer (some ⟨wb, 0, none⟩)] 88 (0, 0)) := by rw [hw2]; exact (Below.heap_alloc _ _ _ (by simp)).trans (heap_new0 _ _)
  have hkn : w2.heap[w1.heap.size + 1]? = some (.cells #[.func (.func 47) #[] #[]] 102 (0, 0)) := by rw [hw2]; exact heap_new1 _ _ _
  have hki := (hB2.block (w.heap.size + 1) (by omega)).trans HK1.out.2
  have hw2k := HWK.out.below hB2 (Nat.le_refl _)
  have hsz2 : w1.heap.size + 1 < w2.heap.size := by rw [hw2]; simp
  clear hw2
  rw [HN.out]
  refine (shortest_anyF n (by omega) (settlesF f i) [] (fun _ => True) ⟨fun _ _ _ _ => trivial, fun _ _ m hm => by simp at hm⟩ w2 trivial (by simp) 49 #[] #[.pointer (some ⟨w1.heap.size + 1, 0, none⟩), .pointer (some ⟨w1.heap.size, 0, none⟩), .pointer (some ⟨w.heap.size + 1, 0, none⟩)]
    (enters_of Try.func49 (by kernel_rfl) rfl) (fun l u W hl hE _ hv => ?_)).mono ?_
  · have hEB : Below w2.heap.size w2 W := hE.below
    refine (ask2_any f HS.out (.slice o f.tallies.length c) v u wb _ _ _ i l W (hw2k.below hEB (Nat.le_refl _)) hv (fun r hr => by have := hl r hr; omega) ((hEB.block _ hsz2).trans hkn) ((hEB.block _ (by omega)).trans hkp) ((hEB.block _ (by omega)).trans hki)).mono ?_
    rintro e W' ⟨rfl, hb⟩
    exact ⟨rfl, trivial, Ext.of_below hb⟩
  · rintro e W' ⟨⟨_, hE⟩, ⟨cx, u, hcx, rfl, hiv⟩ | ⟨hno, _⟩⟩
    · have hEB : Below w2.heap.size w2 W' := hE.below
      have hres : cx = askF f i := by rw [HASK.out.1, hcx]; rfl
      obtain ⟨uo, uc, rfl⟩ := hiv.open
      have HF := Lib.hid (And.intro (bgo (bgo HB.out hB2) hEB) (And.intro hres hiv))
      clear hE hcx hiv hEB hB2 hkp hkn hki hw2k hres
      go_wp2_with fail
      go_returns
      exact ⟨HF.out.1, .inr ⟨HQ0.out, _, by simp; rfl, by rw [← HF.out.2.1]; exact HF.out.2.2⟩⟩
    · rw [HASK.out.2] at hno; cases hno

/-- Whether rows settle a weeder, as ProveAsk answers. -/
def proveAskB (f : FieldD) (i : Int) (rows : List Int) : Bool := decide (askFErr f (inB i 0 (f.weeders - 1)) = 0) && (isTurns (f.rows - 1) rows && settlesF f i rows)

theorem turns_bd {last : Int} {l : List Int} (h0 : 0 ≤ last) (h : isTurns last l = true) : ∀ r ∈ l, 0 ≤ r ∧ r ≤ last := by
  intro r hr
  have h1 := (turns_inc h0 l).1 h
  have := ((inc_pairwise l 0).1 h1).2 r hr
  omega

theorem wProveAsk_any (f : FieldD) (tv rvv : Value) (i : Int) (rows : List Int) (w : World) (ht : TalliesAt w tv f.tallies) (hr : IntsAt w rvv rows) (h0 : -1000 ≤ f.weeders) (h1 : f.weeders ≤ 1000) :
    Calls Try.prog 14 #[fv f tv, iv i, rvv] w (PV (.bool (proveAskB f i rows)) w) := by
  obtain ⟨o, c, rfl⟩ := ht.open
  obtain ⟨ro, rc, rfl⟩ := hr.open
  have hrl := hr.len
  have HA := Lib.hid (wasked_any f (.slice o f.tallies.length c) 50 #[.pointer (some ⟨w.heap.size, 0, none⟩), .pointer (some ⟨w.heap.size + 1, 0, none⟩)] (inB i 0 (f.weeders - 1)) ((w.alloc (.cells (fcells f (.slice o f.tallies.length c)) 36)).alloc (.cells #[iv i] 3)) ((ht.alloc _).alloc _)
    (enters_of Try.func50 (by kernel_rfl) rfl) (fun W hB => pask1_any f (.slice o f.tallies.length c) i _ _ W ((hB.block _ (by simp; omega)).trans ((Below.heap_alloc _ _ _ (by simp)).trans (heap_new0 _ _))) ((hB.block _ (by simp)).trans (heap_new1 _ _ _)) h0 h1))
  have HR := Lib.hid hr
  clear ht hr
  obtain ⟨q, hq⟩ : ∃ q, askFErr f (inB i 0 (f.weeders - 1)) = q := ⟨_, rfl⟩
  obtain ⟨r, hrr⟩ : ∃ r, proveAskB f i rows = r := ⟨_, rfl⟩
  rw [hrr]
  have HQ := Lib.hid hq
  have HRR := Lib.hid hrr
  clear hrr
  go_enter Try.func14, Try.ntmps14
  go_wp2_with fail
  refine HA.out.mono ?_
  rintro e w1 ⟨hb, ⟨hne, rfl⟩ | ⟨h0, wb, v, rfl, hwb, hwk⟩⟩
  · have HB := Lib.hid (show Below w.heap.size w w1 from (by repeat (first | exact Below.refl _ _ | assumption | refine bgo ?_ (by assumption) | refine bgoAlloc ?_ _ | refine bgoDrew ?_ | refine bgoSet ?_ (by simp; omega) _)))
    rw [hq] at hne ⊢
    have hneb : (q == 0) = false := by simpa using hne
    have hF : r = false := by rw [← HRR.out]; unfold proveAskB; rw [hq, decide_eq_false hne]; rfl
    have HF := Lib.hid hF
    clear hb hne hq hF
    go_wp2_with fail
    go_returns
    exact ⟨by rw [HF.out]; simp, HB.out⟩
  have HB := Lib.hid (show Below w.heap.size w w1 from (by repeat (first | exact Below.refl _ _ | assumption | refine bgo ?_ (by assumption) | refine bgoAlloc ?_ _ | refine bgoDrew ?_ | refine bgoSet ?_ (by simp; omega) _)))
  obtain ⟨hS, hpos, _⟩ := ask_sound h0
  have hr0 := hS.rows0
  have hr7 := hS.rows1
  have hk0 := (hb.block w.heap.size (by simp; omega)).trans ((Below.heap_alloc (w.alloc (.cells (fcells f (.slice o f.tallies.length c)) 36)) (.cells #[iv i] 3) _ (by simp)).trans (heap_new0 _ _))
  have hk1 := (hb.block (w.heap.size + 1) (by simp)).trans (heap_new1 w (.cells (fcells f (.slice o f.tallies.length c)) 36) (.cells #[iv i] 3))
  have hsz1 := hb.size
  simp only [World.size_alloc] at hsz1
  have HWK := Lib.hid hwk
  have HS := Lib.hid hS
  have HK1 := Lib.hid (And.intro hk0 hk1)
  have hF : r = (isTurns (f.rows - 1) rows && settlesF f i rows) := by rw [← HRR.out]; unfold proveAskB; rw [h0]; rfl
  have HF := Lib.hid hF
  clear hb h0 hS hpos hq hk0 hk1 hwk hF
  go_wp2_with fail
  go_loopw [21] (fun u wr => ∃ k : Nat, k ≤ rows.length ∧ u = .int .i64 k ∧ Below w1.heap.size w1 wr ∧ ∀ j, j < k → askT (f.rows - 1) (-1) rows j = true) (fun u _ => rows.length - (intOf u).toNat)
  case atStart => exact ⟨0, Nat.zero_le _, rfl, (by repeat (first | exact Below.refl _ _ | assumption | refine bgo ?_ (by assumption) | refine bgoAlloc ?_ _ | refine bgoDrew ?_ | refine bgoSet ?_ (by simp; omega) _)), fun j hj => by omega⟩
  case round =>
    obtain ⟨k, hk, rfl, hB, hno⟩ := hrel
    have hbk := (hB.block _ (by omega)).trans HK1.out.1
    have hbi := (hB.block _ (by omega)).trans HK1.out.2
    obtain ⟨cc0, cf0, cl0⟩ := cells_of_block hbk
    obtain ⟨cc1, cf1, cl1⟩ := cells_of_block hbi
    have HBk := Lib.hid hB
    have HNO := Lib.hid hno
    clear hB hno hbk hbi
    by_cases hlt : k < rows.length
    · have hiv := HR.out.below (bgo HB.out HBk.out) (Nat.le_refl _)
      have hask := askT_of hlt HNO.out
      have hgk : rows.getD k 0 = rows[k] := by simp [List.getD, hlt]
      obtain ⟨b, off, rfl, hb, hc0⟩ := IntsAt.cell hiv hlt
      rw [hgk] at hask
      have hisrow := isRow_any f (.slice o f.tallies.length c) rows[k] wr (by omega) (by omega)
      have hprev : k ≠ 0 → ∃ y, wr.cell? ⟨b, off + (k - 1), none⟩ = some (iv y) ∧ rows.getD (k - 1) 0 = y := fun hk0 => by
        obtain ⟨b', off', hv', _, hc'⟩ := IntsAt.cell hiv (show k - 1 < rows.length by omega)
        cases hv'
        exact ⟨_, hc', by simp [List.getD, show k - 1 < rows.length by omega]⟩
      generalize rows[k] = x at *
      obtain ⟨q1, hq1⟩ : ∃ q1, inB x 0 (f.rows - 1) = q1 := ⟨_, rfl⟩
      rw [hq1] at hisrow hask
      have HI := Lib.hid hisrow
      have HASK := Lib.hid hask
      clear hiv hisrow hask hq1 hgk
      cases q1
      · have hret : r = false := by rw [HF.out, isTurns_at hlt (by rw [HASK.out]; rfl)]; rfl
        have HRET := Lib.hid hret
        clear hret hprev
        go_wp2_with fail
        refine HI.out.mono ?_
        rintro e w' ⟨rfl, hb⟩
        go_wp2_with fail
        go_returns
        exact ⟨by rw [HRET.out]; simp, bgo (bgo HB.out HBk.out) hb⟩
      · by_cases hk0 : k = 0
        · subst hk0
          clear hprev
          rw [Nat.add_zero] at hc0
          simp only [Int.natCast_zero]
          go_wp2_with fail
          refine HI.out.mono ?_
          rintro e w' ⟨rfl, hb⟩
          have HB' := Lib.hid (bgo HBk.out hb)
          clear hb
          go_wp2_with fail
          go_roundw
          case rel => exact ⟨1, by omega, by go_num, HB'.out, fun j hj => by rw [show j = 0 by omega, HASK.out]; rfl⟩
          case measure => simp [intOf]; omega
        · obtain ⟨y, hcy, hy⟩ := hprev hk0
          obtain ⟨m, rfl⟩ : ∃ m, k = m + 1 := ⟨k - 1, by omega⟩
          simp only [Nat.add_sub_cancel] at hcy hy
          have hask2 : askT (f.rows - 1) (-1) rows (m + 1) = !decide (x ≤ y) := by rw [HASK.out, Nat.add_sub_cancel, hy]; simp
          have HA2 := Lib.hid hask2
          have HB2 := Lib.hid (show True from trivial)
          clear hprev hy hask2 HB2
          by_cases hxy : x ≤ y
          · have hret : r = false := by rw [HF.out, isTurns_at hlt (by rw [HA2.out]; simp [hxy])]; rfl
            have HRET := Lib.hid hret
            clear hret
            go_wp2_with fail
            refine HI.out.mono ?_
            rintro e w' ⟨rfl, hb⟩
            obtain ⟨hc, hf⟩ := bcell hb
            have HB' := Lib.hid (bgo (bgo HB.out HBk.out) hb)
            clear hb
            go_wp2_with fail
            go_returns
            exact ⟨by rw [HRET.out]; simp, HB'.out⟩
          · have hxyb : decide (x ≤ y) = false := by simpa using hxy
            have HXY := Lib.hid hxyb
            go_wp2_with fail
            refine HI.out.mono ?_
            rintro e w' ⟨rfl, hb⟩
            obtain ⟨hc, hf⟩ := bcell hb
            have HB' := Lib.hid (bgo HBk.out hb)
            clear hb
            go_wp2_with fail
            go_roundw
            case rel =>
              refine ⟨m + 1 + 1, by omega, by go_num, HB'.out, fun j hj => ?_⟩
              by_cases hjm : j = m + 1
              · subst hjm; rw [HA2.out, HXY.out]; rfl
              · exact HNO.out j (by omega)
            case measure => simp [intOf]; omega
    · have hkl : k = rows.length := by omega
      subst hkl
      have htu : isTurns (f.rows - 1) rows = true := isTurns_all HNO.out
      have hrt := turns_bd (show 0 ≤ f.rows - 1 by omega) htu
      have hst := settles_any f HS.out (.slice o f.tallies.length c) v _ wb i rows wr (HWK.out.below HBk.out (Nat.le_refl _)) (HR.out.below (bgo HB.out HBk.out) (Nat.le_refl _)) (fun r hr => by have := hrt r hr; omega)
      have hF : r = settlesF f i rows := by rw [HF.out, htu]; rfl
      rw [← hF] at hst
      have HST := Lib.hid hst
      clear htu hrt hst hF
      go_wp2_with fail
      refine HST.out.mono ?_
      rintro e w' ⟨rfl, hb⟩
      go_wp2_with fail
      go_returns
      exact ⟨by simp, bgo (bgo HB.out HBk.out) hb⟩

/-! ### Whether a list is a truth -/
def saysB (f : FieldD) (n : Int) : Bool := n == -1 || inB n 0 (f.weeders - 1)
def proveTruthB (f : FieldD) (l : List Int) : Bool := decide (faultF f = 0) && (decide ((l.length : Int) = f.rows) && (l.all (saysB f) && rightF f [] l))

theorem ptruth1_any (f : FieldD) (tv : Value) (n : Int) (bf : Nat) (w : World) (hf : w.heap[bf]? = some (.cells (fcells f tv) 36 (0, 0))) (h0 : -1000 ≤ f.weeders) (h1 : f.weeders ≤ 1000) :
    Calls Try.prog 54 #[iv n, .pointer (some ⟨bf, 0, none⟩)] w (PV (.bool (saysB f n)) w) := by
  have HW := Lib.hid (isWeeder_any f tv n w h0 h1)
  obtain ⟨c1, f1, l1⟩ := cells_of_block hf
  clear hf
  by_cases hn : n = -1
  · subst hn
    go_enter Try.func54, Try.ntmps54
    go_wp2
    go_returns
    exact ⟨by simp [saysB], Below.refl _ _⟩
  · have hnb : (n == -1) = false := by simpa using hn
    go_enter Try.func54, Try.ntmps54
    go_wp2_with fail
    refine HW.out.mono ?_
    rintro e w' ⟨rfl, hb⟩
    go_wp2_with fail
    go_returns
    exact ⟨by simp [saysB, hnb], hb⟩

theorem copy_ints (ty : TypeId) {W : World} {g : Nat} {so : Option Addr} {c : Nat} {l : List Int} (hs : IntsAt W (.slice so l.length c) l) (h1 : 1 ≤ l.length) (h7 : l.length ≤ 7) (hg : W.heap[g]? = some (.cells #[iv 0, iv 0, iv 0, iv 0, iv 0, iv 0, iv 0] 96 (0, 0))) :
    ∃ W', (Builtin.copy_ #[42, 42] ty #[.slice (some ⟨g, 0, none⟩) 7 7, .slice so l.length c]).run Try.prog W = .ok (iv l.length) W' ∧ W'.heap[g]? = some (.cells (intCells (pad7 l)).toArray 96 (0, 0)) ∧ Ext [g] W W' := by
  obtain ⟨so', c', hv, hl, hn, hc⟩ := hs.news
  cases hv
  cases so with
  | none => have := (hn rfl).2; omega
  | some a =>
    have hil : (intCells l).length = l.length := by simp [intCells]
    have h := run_copy_row (P := Try.prog) W 42 42 ty 3 g 0 7 7 a l.length c _ 96 (intCells l) (by kernel_rfl) (by kernel_rfl) hg (by rw [hil]; exact (Nat.min_eq_left h7).symm) (hc a rfl) (by rw [hil]; simpa using h7) (one_ints l)
    rw [hil] at h
    refine ⟨_, h, ?_, ⟨rfl, rfl, rfl, by simp, fun k _ hm => setRow_other _ _ _ _ (by simpa using hm)⟩⟩
    rw [setRow_heap W g _ _ _ _ hg]
    congr 3
    have e : (#[iv 0, iv 0, iv 0, iv 0, iv 0, iv 0, iv 0] : Array Value).toList = List.replicate 7 (iv 0) := rfl
    rw [e, List.drop_replicate, List.take_zero, List.nil_append, Nat.zero_add]
    unfold pad7 intCells
    rw [List.map_append, List.map_replicate]

theorem wProveTruth_any (f : FieldD) (tv rvv : Value) (l : List Int) (w : World) (ht : TalliesAt w tv f.tallies) (hr : IntsAt w rvv l) :
    Calls Try.prog 16 #[fv f tv, rvv] w (PV (.bool (proveTruthB f l)) w) := by
  obtain ⟨o, c, rfl⟩ := ht.open
  obtain ⟨ro, rc, rfl⟩ := hr.open
  have hrl := hr.len
  have HC := Lib.hid (checkF_any f (.slice o f.tallies.length c))
  have HT := Lib.hid ht
  have HR := Lib.hid hr
  clear ht hr
  obtain ⟨q, hq⟩ : ∃ q, faultF f = q := ⟨_, rfl⟩
  rw [hq] at HC
  obtain ⟨r, hrr⟩ : ∃ r, proveTruthB f l = r := ⟨_, rfl⟩
  rw [hrr]
  have HRR := Lib.hid hrr
  clear hrr
  by_cases hq0 : q = 0
  case neg =>
    have hneb : (q != 0) = true := by simpa using hq0
    have hF : r = false := by rw [← HRR.out]; unfold proveTruthB; rw [hq, decide_eq_false hq0]; rfl
    have HF := Lib.hid hF
    clear hF hq hq0
    go_enter Try.func16, Try.ntmps16
    go_wp2_with fail
    refine (HC.out _ (HT.out.alloc _)).mono ?_
    rintro e w' ⟨rfl, hb⟩
    go_wp2_with fail
    go_returns
    exact ⟨by rw [HF.out]; simp, (by repeat (first | exact Below.refl _ _ | assumption | refine bgo ?_ (by assumption) | refine bgoAlloc ?_ _ | refine bgoDrew ?_ | refine bgoSet ?_ (by simp; omega) _))⟩
  subst hq0
  have hS := soundF_of hq
  have hr0 := hS.rows0
  have hr7 := hS.rows1
  have HS := Lib.hid hS
  have hF : r = (decide ((l.length : Int) = f.rows) && (l.all (saysB f) && rightF f [] l)) := by rw [← HRR.out]; unfold proveTruthB; rw [hq]; rfl
  clear hq hS
  by_cases hlen : (l.length : Int) = f.rows
  case neg =>
    have hneb : ((l.length : Int) != f.rows) = true := by simpa using hlen
    have hF : r = false := by rw [hF, decide_eq_false hlen]; rfl
    have HF := Lib.hid hF
    clear hF hlen
    go_enter Try.func16, Try.ntmps16
    go_wp2_with fail
    refine (HC.out _ (HT.out.alloc _)).mono ?_
    rintro e w' ⟨rfl, hb⟩
    obtain ⟨hc, hf⟩ := bcell hb
    have hz0 : w.heap.size < w'.heap.size := (by have := hb.size; (try simp only [World.size_alloc] at this); omega)
    go_wp2_with fail
    go_returns
    exact ⟨by rw [HF.out]; simp, (by repeat (first | exact Below.refl _ _ | assumption | refine bgo ?_ (by assumption) | refine bgoAlloc ?_ _ | refine bgoDrew ?_ | refine bgoSet ?_ (by simp; omega) _))⟩
  have hneb : ((l.length : Int) != f.rows) = false := by simpa using hlen
  have hl1 : 1 ≤ l.length := by omega
  have hl7 : l.length ≤ 7 := by omega
  rw [decide_eq_true hlen, Bool.true_and] at hF
  have HLEN := Lib.hid hlen
  have hw0 := HS.out.weed0
  have hw1 := HS.out.weed1
  obtain ⟨q, hq⟩ : ∃ q, l.all (saysB f) = q := ⟨_, rfl⟩
  rw [hq] at hF
  have HF := Lib.hid hF
  have HALL := Lib.hid (fun (w' : World) (hB : Below w.heap.size w w') (hk : w'.heap[w.heap.size]? = some (.cells (fcells f (.slice o f.tallies.length c)) 36 (0, 0))) =>
    hq ▸ wallI_pure l (.slice ro l.length rc) 54 #[] #[.pointer (some ⟨w.heap.size, 0, none⟩)] (saysB f) w' (HR.out.below hB (Nat.le_refl _)) (enters_of Try.func54 (by kernel_rfl) rfl)
      (fun x _ W hW => ptruth1_any f (.slice o f.tallies.length c) x w.heap.size W ((hW.block _ (Array.getElem?_eq_some_iff.1 hk).1).trans hk) (by omega) (by omega)))
  clear hF hlen hq
  go_enter Try.func16, Try.ntmps16
  go_wp2_with fail
  refine (HC.out _ (HT.out.alloc _)).mono ?_
  rintro e w' ⟨rfl, hb⟩
  obtain ⟨hc, hf⟩ := bcell hb
  have hz0 : w.heap.size < w'.heap.size := (by have := hb.size; (try simp only [World.size_alloc] at this); omega)
  have HB := Lib.hid (show Below w.heap.size w w' from (by repeat (first | exact Below.refl _ _ | assumption | refine bgo ?_ (by assumption) | refine bgoAlloc ?_ _ | refine bgoDrew ?_ | refine bgoSet ?_ (by simp; omega) _)))
  have HK := Lib.hid ((hb.block _ (by simp)).trans (heap_new0 w (.cells (fcells f (.slice o f.tallies.length c)) 36)))
  clear hb
  go_wp2_with fail
  refine (HALL.out w' HB.out HK.out).mono ?_
  rintro e w2 ⟨rfl, hb⟩
  have HB2 := Lib.hid (bgo HB.out hb)
  have hk2 := (hb.block _ hz0).trans HK.out
  clear hb hc hf hz0
  cases q
  · have hF : r = false := by rw [HF.out]; rfl
    have HF' := Lib.hid hF
    clear hF
    go_wp2_with fail
    go_returns
    exact ⟨by rw [HF'.out]; simp, HB2.out⟩
  have hF : r = rightF f [] l := by rw [HF.out]; rfl
  have HF' := Lib.hid hF
  clear hF
  go_upto_region 4 with (fail)
  refine gworld fun W3 hW3 => ?_
  have hB3 : Below w2.heap.size w2 W3 := by rw [hW3]; exact (by repeat (first | exact Below.refl _ _ | assumption | refine bgo ?_ (by assumption) | refine bgoAlloc ?_ _ | refine bgoDrew ?_ | refine bgoSet ?_ (by simp; omega) _))
  have hk3 : W3.heap[w2.heap.size]? = some (.cells #[iv 0, iv 0, iv 0, iv 0, iv 0, iv 0, iv 0] 96 (0, 0)) := by rw [hW3]; exact heap_new0 _ _
  obtain ⟨W4, hcp, hk4, hE4⟩ := copy_ints 3 (HR.out.below (bgo HB2.out hB3) (Nat.le_refl _)) hl1 hl7 hk3
  clear hW3
  have hs3 := hB3.size
  have hw2 : w.heap.size < w2.heap.size := (Array.getElem?_eq_some_iff.1 hk2).1
  have hB4 : Below w.heap.size w W4 := below_of_ext (bgo HB2.out hB3) hE4 (by omega)
  have hbf4 := (hE4.block w.heap.size (by omega) (by simp; omega)).trans ((hB3.block _ hw2).trans hk2)
  obtain ⟨y0, y1, y2, y3, y4, y5, y6, hys⟩ := seven_of (pad7_len hl7)
  have hright := right_any f HS.out o c (pad7 l) (pad7_len hl7) (.slice none 0 0) [] W4 (HT.out.below hB4 (Nat.le_refl _)) (ints_nil W4)
  rw [right_pad, ← HF'.out, hys] at hright
  have hright' : Calls Try.prog 55 #[fv f (.slice o f.tallies.length c), .agg #[iv y0, iv y1, iv y2, iv y3, iv y4, iv y5, iv y6], .slice none 0 0] W4 (PV (.bool r) W4) := hright
  rw [hys] at hk4
  have hk4' : W4.heap[w2.heap.size]? = some (.cells #[iv y0, iv y1, iv y2, iv y3, iv y4, iv y5, iv y6] 96 (0, 0)) := hk4
  obtain ⟨c1, f1, l1⟩ := cells_of_block hbf4
  obtain ⟨c2, f2, l2⟩ := cells_of_block hk4'
  have HX := Lib.hid (And.intro hB4 hright')
  clear hB4 hright hright' hk4 hk4' hbf4 hys hE4 hB3 hk3
  go_wp2_with fail
  refine HX.out.2.mono ?_
  rintro e w5 ⟨rfl, hb⟩
  go_wp2_with fail
  go_returns
  exact ⟨by simp, bgo HX.out.1 hb⟩

end Go.Proofs.Ytdjgikcnmokjkaa

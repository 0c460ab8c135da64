/-
  Contracts of package weed, eighth part: whether rows settle a weeder.
  Contracts of package weed, ninth part: the shortest list that passes.
  Contracts of package weed, tenth part: Ask, ProveAsk, ProveTruth.
-/
import Derived.WalkKit
import Derived.WalkLawsBesides
import Derived.WalkSpells
import Derived.Outline
import Derived.Handy
import Derived.KernelRfl
import Derived.Lib.Hide
import Derived.Test.YtechgmnkcijahaaPE
import Derived.Laws.CopyRow
namespace Go.Proofs.Ytechgmnkcijahaa
open Go.RowKit Go.RG Go.SL Go.Shelf Cou Go.TB
set_option maxHeartbeats 400000
set_option maxRecDepth 10000

/-- What the table of what is known holds, behind the first truths. -/
structure KnT (f : FieldD) (ls : List (List Int)) (i : Int) (rows : List Int) (k : Nat) (T : List (List Int × Int)) : Prop where
  has : ∀ j, j < k → ∀ x, ls[j]? = some x → TB.look (keyF rows x) T = some (doneF f x i)
  only : ∀ key n, TB.look key T = some n → ∃ j, j < k ∧ ∃ x, ls[j]? = some x ∧ keyF rows x = key ∧ doneF f x i = n

theorem KnT.zero (f : FieldD) (ls : List (List Int)) (i : Int) (rows : List Int) : KnT f ls i rows 0 [] := ⟨fun j hj => by omega, fun key n h => by cases h⟩
theorem KnT.new {f : FieldD} {ls : List (List Int)} {i : Int} {rows : List Int} {k : Nat} {T : List (List Int × Int)} (h : KnT f ls i rows k T) {x : List Int} (hx : ls[k]? = some x) (hn : TB.look (keyF rows x) T = none) : KnT f ls i rows (k + 1) (TB.store (keyF rows x) (doneF f x i) T) := by
  refine ⟨fun j hj y hy => ?_, fun key n hl => ?_⟩
  · rw [look_store]
    by_cases e : j = k
    · subst e; rw [hx] at hy; cases hy; rw [if_pos rfl]
    · have := h.has j (by omega) y hy
      rw [if_neg (fun e => by rw [e, hn] at this; cases this), this]
  · rw [look_store] at hl
    split at hl
    · rename_i e; cases hl; exact ⟨k, by omega, x, hx, e.symm, rfl⟩
    · obtain ⟨j, hj, y, h1, h2⟩ := h.only key n hl
      exact ⟨j, by omega, y, h1, h2⟩
theorem KnT.old {f : FieldD} {ls : List (List Int)} {i : Int} {rows : List Int} {k : Nat} {T : List (List Int × Int)} (h : KnT f ls i rows k T) {x : List Int} (hx : ls[k]? = some x) (hn : TB.look (keyF rows x) T = some (doneF f x i)) : KnT f ls i rows (k + 1) T := by
  refine ⟨fun j hj y hy => ?_, fun key n hl => ?_⟩
  · by_cases e : j = k
    · subst e; rw [hx] at hy; cases hy; exact hn
    · exact h.has j (by omega) y hy
  · obtain ⟨j, hj, y, h1, h2⟩ := h.only key n hl
    exact ⟨j, by omega, y, h1, h2⟩

theorem settles_yes {f : FieldD} {i : Int} {rows : List Int} (hr : ∀ r ∈ rows, 0 ≤ r ∧ r < 7) {T : List (List Int × Int)} (h : KnT f (truthsF f []) i rows (truthsF f []).length T) : settlesF f i rows = true := by
  rw [settlesF_iff]
  intro a ha b hb hs
  obtain ⟨j, hj, rfl⟩ := List.getElem_of_mem ha
  obtain ⟨m, hm, rfl⟩ := List.getElem_of_mem hb
  have h1 := h.has j hj _ (List.getElem?_eq_getElem hj)
  have h2 := h.has m hm _ (List.getElem?_eq_getElem hm)
  rw [(keyF_eq hr).2 hs, h2] at h1
  injection h1 with h1
  exact h1.symm
theorem settles_no {f : FieldD} {i : Int} {rows : List Int} (hr : ∀ r ∈ rows, 0 ≤ r ∧ r < 7) {T : List (List Int × Int)} {k : Nat} (h : KnT f (truthsF f []) i rows k T) {x : List Int} (hx : (truthsF f [])[k]? = some x) {n : Int} (hn : TB.look (keyF rows x) T = some n) (hne : n ≠ doneF f x i) :
    settlesF f i rows = false := by
  cases hs : settlesF f i rows
  · rfl
  · rw [settlesF_iff] at hs
    obtain ⟨j, hj, y, h1, h2, h3⟩ := h.only _ _ hn
    have := hs y (List.mem_of_getElem? h1) x (List.mem_of_getElem? hx) ((keyF_eq hr).1 h2)
    exact absurd (h3.symm.trans this) hne

set_option maxHeartbeats 1600000 in
theorem settles_any (f : FieldD) (hS : SoundF f) (tv v rvv : Value) (wb : Nat) (i : Int) (rows : List Int) (w : World) (hw : WkAt w wb f tv v (truthsF f [])) (hr : IntsAt w rvv rows) (hrows : ∀ r ∈ rows, 0 ≤ r ∧ r < 7) :
    Calls Try.prog 85 #[.pointer (some ⟨wb, 0, none⟩), iv i, rvv] w (PV (.bool (settlesF f i rows)) w) := by
  have hmm := @run_makeMap Try.prog
  have hYES := Lib.hid (fun T h => settles_yes (f := f) (i := i) hrows (T := T) h)
  have hNO := Lib.hid (fun T k h x hx n hn hne => settles_no (f := f) (i := i) hrows (T := T) (k := k) h (x := x) hx (n := n) hn hne)
  have hlen7 : ∀ x ∈ truthsF f [], x.length ≤ 7 := fun x hx => by have := truthsF_len hx; have := hS.rows1; omega
  have hcnt := truthsF_count hS []
  obtain ⟨vo, vc, rfl⟩ := hw.truth.open
  obtain ⟨ro, rc, rfl⟩ := hr.open
  obtain ⟨o, c, rfl⟩ := hw.tal.open
  generalize truthsF f [] = ls at *
  obtain ⟨c1, f1, l1⟩ := cells_of_block hw.cells
  have hrl := hr.len
  have HW := Lib.hid hw
  have HR := Lib.hid hr
  have HS := Lib.hid hS
  have HL := Lib.hid (And.intro hlen7 hrows)
  clear hw hr hS hlen7 hrows
  go_enter Try.func85, Try.ntmps85
  go_wp2_with fail
  go_loopw [21] (fun u wr => ∃ k : Nat, k ≤ ls.length ∧ u = .int .i64 k ∧ Below w.heap.size w wr ∧ ∃ T, TabAt aggI iv Len7 wr w.heap.size T ∧ KnT f ls i rows k T) (fun u _ => ls.length - (intOf u).toNat)
  case atStart => exact ⟨0, Nat.zero_le _, rfl, (by repeat (first | exact Below.refl _ _ | assumption | refine bgo ?_ (by assumption) | refine bgoAlloc ?_ _ | refine bgoDrew ?_ | refine bgoSet ?_ (by simp; omega) _)), [], new_tab (heap_new0 _ _), KnT.zero _ _ _ _⟩
  case round =>
    obtain ⟨k, hk, rfl, hB, T, hT, hK⟩ := hrel
    by_cases hlt : k < ls.length
    · have hwr := HW.out.below hB (Nat.le_refl _)
      obtain ⟨d1, g1, m1⟩ := cells_of_block hwr.cells
      obtain ⟨b, off, y0, y1, y2, y3, y4, y5, y6, hvv, hb, hys, r0, r1, r2, r3, r4, r5, r6⟩ := ans_cell hwr.truth HL.out.1 hlt
      subst hvv
      have hxk : ls[k]? = some ls[k] := List.getElem?_eq_getElem hlt
      generalize ls[k] = x at *
      have hD := done7_any f (.slice o f.tallies.length c) _ y0 y1 y2 y3 y4 y5 y6 hys i HS.out
      have hdb := doneF_bd HS.out x i
      obtain ⟨d, hd⟩ : ∃ d, doneF f x i = d := ⟨_, rfl⟩
      rw [hd] at hD hdb
      have HD := Lib.hid (And.intro hD hd)
      have HX := Lib.hid (And.intro hxk hys)
      have HK := Lib.hid (And.intro hB (And.intro hT hK))
      have hltI : (k : Int) < ls.length := by omega
      clear hD hd hxk hys hB hT hK hwr
      go_upto_region 6 with (fail)
      refine gworld fun W6 hW6 => ?_
      have hB6 : Below wr.heap.size wr W6 := by rw [hW6]; exact (by repeat (first | exact Below.refl _ _ | assumption | refine bgo ?_ (by assumption) | refine bgoAlloc ?_ _ | refine bgoDrew ?_ | refine bgoSet ?_ (by simp; omega) _))
      have hk9 : W6.heap[wr.heap.size]? = some (.cells #[iv y0, iv y1, iv y2, iv y3, iv y4, iv y5, iv y6] 105 (0, 0)) := by rw [hW6]; exact (Below.heap_alloc _ _ _ (by simp)).trans (heap_new0 _ _)
      have hk10 : W6.heap[wr.heap.size + 1]? = some (.cells #[iv 0, iv 0, iv 0, iv 0, iv 0, iv 0, iv 0] 105 (0, 0)) := by rw [hW6]; exact heap_new1 _ _ _
      have hs6 : wr.heap.size + 1 < W6.heap.size := by rw [hW6]; simp
      clear hW6 d1 g1 m1 r0 r1 r2 r3 r4 r5 r6 hb
      have HR6 := Lib.hid (HR.out.below (bgo HK.out.1 hB6) (Nat.le_refl _))
      have HW6 := Lib.hid (HW.out.below (bgo HK.out.1 hB6) (Nat.le_refl _))
      have HT6 := Lib.hid (HK.out.2.1.below hB6 (Nat.le_refl _))
      have hmw : w.heap.size < wr.heap.size := HK.out.2.1.lt
      have HB6 := Lib.hid (bgo HK.out.1 hB6)
      have HK9 := Lib.hid hk9
      have HKN := Lib.hid HK.out.2.2
      have hwb6 : wb < wr.heap.size := by have := HK.out.1.size; omega
      have hx0 : (intCells (keyF [] x)).toArray = #[iv 0, iv 0, iv 0, iv 0, iv 0, iv 0, iv 0] := rfl
      rw [← hx0] at hk10
      clear hB6 hk9 hx0 HK
      generalize wr.heap.size = b9 at *
      go_wp2_with fail
      go_loopw [27] (fun u wq => ∃ q : Nat, q ≤ rows.length ∧ u = .int .i64 q ∧ wq.heap[b9 + 1]? = some (.cells (intCells (keyF (rows.take q) x)).toArray 105 (0, 0)) ∧ Ext [b9 + 1] W6 wq) (fun u _ => rows.length - (intOf u).toNat)
      case atStart => exact ⟨0, Nat.zero_le _, rfl, hk10, Ext.refl _ _⟩
      case round =>
        obtain ⟨q, hq, rfl, hkey, hE⟩ := hrel
        have h9 := (hE.block b9 (by omega) (by simp)).trans HK9.out
        by_cases hlq : q < rows.length
        · have hrq := HR6.out.ext hE (by
            intro z hz e
            obtain rfl : z = b9 + 1 := by simpa using hz
            obtain ⟨b', off', hb', hlt', _⟩ := IntsAt.cell HR.out (show 0 < rows.length by omega)
            rw [hb'] at e
            simp [Value.ownBlock] at e
            omega)
          obtain ⟨rb, roff, rfl, hrb, hrc⟩ := IntsAt.cell hrq hlq
          obtain ⟨hr0, hr7⟩ := HL.out.2 _ (List.getElem_mem hlq)
          obtain ⟨rn, hrn⟩ : ∃ rn : Nat, rows[q] = rn := ⟨rows[q].toNat, by omega⟩
          rw [hrn] at hrc hr0 hr7
          have hks : (keyF (rows.take q) x).set rn (x.getD rn 0) = keyF (rows.take (q + 1)) x := by
            have := keyF_snoc (rows.take q) x (rn : Int) (by omega) (by omega)
            rw [show ((rn : Nat) : Int).toNat = rn from by omega] at this
            rw [this, List.take_succ_eq_append_getElem hlq, hrn]
          have hrn7 : rn < 7 := by omega
          have hl9 : wr.cell? ⟨b9, rn, none⟩ = some (iv (x.getD rn 0)) := by
            rw [← pad7_get, HX.out.2]
            have : (#[iv y0, iv y1, iv y2, iv y3, iv y4, iv y5, iv y6] : Array Value) = (intCells [y0, y1, y2, y3, y4, y5, y6]).toArray := rfl
            rw [this] at h9
            have h := cell_of_ints h9 (show rn < [y0, y1, y2, y3, y4, y5, y6].length from hrn7)
            rw [h]
            simp [List.getD, hrn7]
          have hl10 := cell_of_ints hkey (show rn < (keyF (rows.take q) x).length by rw [keyF_len]; omega)
          generalize hz : (keyF (rows.take q) x)[rn]'(by rw [keyF_len]; omega) = z at hl10
          generalize x.getD rn 0 = xr at *
          have hb9s := World.block_lt_of_cell? wr _ hl9
          have hb10s := World.block_lt_of_cell? wr _ hl10
          have hfr := frozen_of_block hkey rn
          have HKEY := Lib.hid hkey
          have HKS := Lib.hid hks
          have HE := Lib.hid hE
          have hlqI : (q : Int) < rows.length := by omega
          clear hkey hks hE hrn hrq h9 hz
          go_wp2_with fail
          go_roundw
          case rel =>
            refine ⟨q + 1, by omega, by go_num, ?_, HE.out.trans (ext_set _ ⟨b9 + 1, rn, none⟩ _)⟩
            rw [← HKS.out, ← set_ints]
            exact set_block HKEY.out _
          case measure => simp [intOf]; omega
        · have hql : q = rows.length := by omega
          subst hql
          rw [List.take_length] at hkey
          obtain ⟨k0, k1, k2, k3, k4, k5, k6, hks⟩ := seven_of (keyF_len rows x)
          have hky : (intCells (keyF rows x)).toArray = #[iv k0, iv k1, iv k2, iv k3, iv k4, iv k5, iv k6] := by rw [hks]; rfl
          have hka : aggI (keyF rows x) = .agg #[iv k0, iv k1, iv k2, iv k3, iv k4, iv k5, iv k6] := congrArg Value.agg hky
          have hT9 : TabAt aggI iv Len7 wr w.heap.size T := HT6.out.ext hE (by simp; omega)
          have hlook := fun cm => look_run keyAns (mt := 140) (e := 3) (by kernel_rfl) (z := iv 0) (fun W => by simp [go_sem]) hT9 (keyF rows x) (keyF_len _ _) cm wr rfl
          have hw9 : wr.heap[wb]? = some (.cells (wkcells f (.slice o f.tallies.length c) (.slice (some ⟨b, off, none⟩) ls.length vc)) 114 (0, 0)) := (hE.block _ HW6.out.lt (by simp; omega)).trans HW6.out.cells
          have hbw : Below w.heap.size w wr := HB6.out.trans ⟨hE.os, hE.tape, hE.output, hE.size, fun k' hk' => hE.block k' (by have := HB6.out.size; omega) (by simp; omega)⟩
          have hkey2 := hkey
          rw [hky] at hkey2
          obtain ⟨e1, e2, e3⟩ := cells_of_block hkey2
          obtain ⟨q1, q2, q3⟩ := cells_of_block h9
          obtain ⟨s1, s2, s3⟩ := cells_of_block hw9
          have HT9 := Lib.hid hT9
          have HBW := Lib.hid hbw
          have HKA := Lib.hid hka
          obtain ⟨lk, hlk⟩ : ∃ lk, TB.look (keyF rows x) T = lk := ⟨_, rfl⟩
          rw [hlk] at hlook
          have HLK := Lib.hid hlk
          rw [hka] at hlook
          clear hkey hkey2 hks hky hka hT9 hE hw9 hbw h9 hlk
          cases lk with
          | none =>
            simp only [Option.map_none, Option.getD_none, Option.isSome_none] at hlook
            have hlk := hlook true
            simp only [if_true] at hlk
            clear hlook
            go_upto_region 13 with (fail)
            refine wp_region_rg 9 [] none [(8, Spec.val (iv d))] (by as_aux_lemma => kernel_rfl) (by as_aux_lemma => kernel_rfl) ?_
            simp only [List.take_succ_cons, List.take_zero, List.drop_succ_cons, List.drop_zero]
            repeat (first | (refine tree_det (by rfl) _ (by rfl) (fun W hW => by go_simp; (try simp (disch := omega) only [IntWalk.i64_in]); try rfl) ?_; simp only [Act.put, List.setIfInBounds_toArray, List.set_cons_succ, List.set_cons_zero]) | (refine tree_skip (by rfl) (by rfl) ?_; simp only [Act.put, List.setIfInBounds_toArray, List.set_cons_succ, List.set_cons_zero]))
            refine tree_val _ (by rfl) (by rfl) 68 _ (fun W hW => by go_simp; try rfl) (fun W hE hF => by exact HD.out.1 W) ?_
            simp only [Act.put, List.setIfInBounds_toArray, List.set_cons_succ, List.set_cons_zero]
            intro W hE hF
            obtain ⟨hc, hf⟩ := bcell hE.below
            have hzE := hE.size
            (try simp only [World.size_alloc] at hzE)
            obtain ⟨W8, hrun, hT8, hE8⟩ := store_run keyAns (mt := 140) (e := 3) (by kernel_rfl) (HT9.out.below hE.below (Nat.le_refl _)) (keyF rows x) (keyF_len _ _) d
            rw [HKA.out] at hrun
            have hB8 := below_of_ext (bgo HBW.out hE.below) hE8 (Nat.le_refl _)
            have hK8 := HKN.out.new HX.out.1 HLK.out
            rw [HD.out.2] at hK8
            have H8 := Lib.hid (And.intro hB8 (And.intro hT8 hK8))
            clear hB8 hT8 hK8 hE8 hE hF hc hf e1 e2 e3 q1 q2 q3 s1 s2 s3 hlk
            go_wp2_with fail
            go_roundw
            case rel => exact ⟨k + 1, by omega, by go_num, H8.out.1, _, H8.out.2.1, H8.out.2.2⟩
            case measure => simp [intOf]; omega
          | some n =>
            simp only [Option.map_some, Option.getD_some, Option.isSome_some] at hlook
            have hlk := hlook true
            simp only [if_true] at hlk
            clear hlook
            by_cases hnd : n = d
            · rw [hnd] at hlk HLK
              go_upto_region 14 with (fail)
              refine wp_region_rg 9 [] none [(7, Spec.val (iv d))] (by as_aux_lemma => kernel_rfl) (by as_aux_lemma => kernel_rfl) ?_
              simp only [List.take_succ_cons, List.take_zero, List.drop_succ_cons, List.drop_zero]
              repeat (first | (refine tree_det (by rfl) _ (by rfl) (fun W hW => by go_simp; (try simp (disch := omega) only [IntWalk.i64_in]); try rfl) ?_; simp only [Act.put, List.setIfInBounds_toArray, List.set_cons_succ, List.set_cons_zero]) | (refine tree_skip (by rfl) (by rfl) ?_; simp only [Act.put, List.setIfInBounds_toArray, List.set_cons_succ, List.set_cons_zero]))
              refine tree_val _ (by rfl) (by rfl) 68 _ (fun W hW => by go_simp; try rfl) (fun W hE hF => by exact HD.out.1 W) ?_
              simp only [Act.put, List.setIfInBounds_toArray, List.set_cons_succ, List.set_cons_zero]
              repeat (first | (refine tree_det (by rfl) _ (by rfl) (fun W hW => by go_simp; (try simp (disch := omega) only [IntWalk.i64_in]); try rfl) ?_; simp only [Act.put, List.setIfInBounds_toArray, List.set_cons_succ, List.set_cons_zero]) | (refine tree_skip (by rfl) (by rfl) ?_; simp only [Act.put, List.setIfInBounds_toArray, List.set_cons_succ, List.set_cons_zero]))
              intro W hE hF
              obtain ⟨hc, hf⟩ := bcell hE.below
              have hzE := hE.size
              (try simp only [World.size_alloc] at hzE)
              have hK8 := HKN.out.old HX.out.1 (by rw [HLK.out, HD.out.2])
              have H8 := Lib.hid (And.intro (bgo HBW.out hE.below) (And.intro (HT9.out.below hE.below (Nat.le_refl _)) hK8))
              clear hK8 hE hF hc hf e1 e2 e3 q1 q2 q3 s1 s2 s3 hlk
              go_wp2_with fail
              go_roundw
              case rel => exact ⟨k + 1, by omega, by go_num, H8.out.1, _, H8.out.2.1, H8.out.2.2⟩
              case measure => simp [intOf]; omega
            · have hndb : (n != d) = true := by simpa using hnd
              have HND := Lib.hid hnd
              clear hnd
              go_upto_region 14 with (fail)
              refine wp_region_rg 9 [] none [(7, Spec.val (iv d))] (by as_aux_lemma => kernel_rfl) (by as_aux_lemma => kernel_rfl) ?_
              simp only [List.take_succ_cons, List.take_zero, List.drop_succ_cons, List.drop_zero]
              repeat (first | (refine tree_det (by rfl) _ (by rfl) (fun W hW => by go_simp; (try simp (disch := omega) only [IntWalk.i64_in]); try rfl) ?_; simp only [Act.put, List.setIfInBounds_toArray, List.set_cons_succ, List.set_cons_zero]) | (refine tree_skip (by rfl) (by rfl) ?_; simp only [Act.put, List.setIfInBounds_toArray, List.set_cons_succ, List.set_cons_zero]))
              refine tree_val _ (by rfl) (by rfl) 68 _ (fun W hW => by go_simp; try rfl) (fun W hE hF => by exact HD.out.1 W) ?_
              simp only [Act.put, List.setIfInBounds_toArray, List.set_cons_succ, List.set_cons_zero]
              repeat (first | (refine tree_det (by rfl) _ (by rfl) (fun W hW => by go_simp; (try simp (disch := omega) only [IntWalk.i64_in]); try rfl) ?_; simp only [Act.put, List.setIfInBounds_toArray, List.set_cons_succ, List.set_cons_zero]) | (refine tree_skip (by rfl) (by rfl) ?_; simp only [Act.put, List.setIfInBounds_toArray, List.set_cons_succ, List.set_cons_zero]))
              intro W hE hF
              obtain ⟨hc, hf⟩ := bcell hE.below
              have hzE := hE.size
              (try simp only [World.size_alloc] at hzE)
              have hNo := hNO.out _ _ HKN.out _ HX.out.1 _ HLK.out (by rw [HD.out.2]; exact HND.out)
              have H8 := Lib.hid (And.intro (bgo HBW.out hE.below) hNo)
              clear hNo hE hF hc hf e1 e2 e3 q1 q2 q3 s1 s2 s3 hlk
              go_wp2_with fail
              go_returns
              exact ⟨by rw [H8.out.2]; simp, H8.out.1⟩
    · have hkl : k = ls.length := by omega
      subst hkl
      have H8 := Lib.hid (And.intro hB (hYES.out _ hK))
      clear hB hT hK
      go_wp2_with fail
      go_returns
      exact ⟨by rw [H8.out.2]; simp, H8.out.1⟩

end Go.Proofs.Ytechgmnkcijahaa

namespace Go.Proofs.Ytechgmnkcijahaa
open Go.RowKit Go.RG Go.SL Go.Shelf Cou Go.TB
set_option maxHeartbeats 400000
set_option maxRecDepth 10000

/-- What is said of Clone's slice, and of the new one of one number, until they are appended. -/
def shPs (B n : Nat) (xs : List Int) (x : Int) : Pres := fun i _ v W =>
  match i with
  | 2 => W.ownsRow B 3 1 v n (intCells xs)
  | 4 => ∃ b : Nat, v = .slice (some ⟨b, 0, none⟩) 1 1 ∧ W.heap[b]? = some (.cells #[iv x] 3 (0, 0))
  | _ => True

/-- What a pass may turn: the blocks Ms, which hold no cells; what stays true of them. -/
structure GoodOf (Ms : List Nat) (Good : World → Prop) : Prop where
  kept : ∀ a b : World, Good a → (∀ m ∈ Ms, b.heap[m]? = a.heap[m]?) → Good b
  none : ∀ W : World, Good W → ∀ m ∈ Ms, ∀ o, W.cell? ⟨m, o, .none⟩ = .none

/-- What shortest returns. -/
def ShPostF (Ms : List Nat) (Good : World → Prop) (r : Option (List Int)) (w : World) (e : Ending) (W' : World) : Prop :=
  (Good W' ∧ Ext Ms w W') ∧ ((∃ c v, r = some c ∧ e = .returned v ∧ IntsAt W' v c) ∨ (r = none ∧ ∃ o n c, e = .returned (.slice o n c)))

end Go.Proofs.Ytechgmnkcijahaa

namespace Go.Proofs.Ytechgmnkcijahaa
open Go.RowKit Go.RG Go.SL Go.Shelf Cou Go.TB
set_option maxHeartbeats 400000
set_option maxRecDepth 10000

theorem askT_of {last : Int} {l : List Int} {k : Nat} (hlt : k < l.length) (hno : ∀ j, j < k → askT last (-1) l j = true) :
    askT last (-1) l k = (inB (l.getD k 0) 0 last && (k == 0 || !decide (l.getD k 0 ≤ l.getD (k - 1) 0))) := by
  cases k with
  | zero => simp [askT]
  | succ m =>
    have h1 := hno m (by omega)
    have h0 : 0 ≤ last := by
      have := hno 0 (by omega)
      simp [askT, inB] at this
      omega
    have h2 := askT_prev last h0 l m (fun j hj => hno j (by omega)) (by omega)
    simp only [askT, inB, Bool.and_eq_true, decide_eq_true_eq] at h1
    simp only [askT, List.getD_cons_succ, inB, Nat.add_sub_cancel]
    rw [Bool.eq_iff_iff]
    simp only [List.getD_eq_getElem?_getD] at h1 h2 ⊢
    simp
    omega

theorem isTurns_at {last : Int} {l : List Int} {k : Nat} (hlt : k < l.length) (h : askT last (-1) l k = false) : isTurns last l = false := by
  unfold isTurns
  rw [turnsFrom_all, List.all_eq_false]
  exact ⟨k, by simpa using hlt, by simp [h]⟩

theorem isTurns_all {last : Int} {l : List Int} (h : ∀ j, j < l.length → askT last (-1) l j = true) : isTurns last l = true := by
  unfold isTurns
  rw [turnsFrom_all, List.all_eq_true]
  exact fun j hj => h j (by simpa using hj)

theorem gworldC {P : Program} {f : FuncId} {args : Array Value} {R : Ending → World → Prop} {W : World} (h : ∀ W', W' = W → Calls P f args W' R) : Calls P f args W R := h W rfl

theorem pask1_any (f : FieldD) (tv : Value) (i : Int) (bf bi : Nat) (w : World) (hf : w.heap[bf]? = some (.cells (fcells f tv) 30 (0, 0))) (hi : w.heap[bi]? = some (.cells #[iv i] 3 (0, 0))) (h0 : -1000 ≤ f.weeders) (h1 : f.weeders ≤ 1000) :
    Calls Try.prog 83 #[.pointer (some ⟨bf, 0, none⟩), .pointer (some ⟨bi, 0, none⟩)] w (PV (.bool (inB i 0 (f.weeders - 1))) w) := by
  have HW := Lib.hid (isWeeder_any f tv i w h0 h1)
  obtain ⟨c1, f1, l1⟩ := cells_of_block hf
  obtain ⟨c2, f2, l2⟩ := cells_of_block hi
  clear hf hi
  go_enter Try.func83, Try.ntmps83
  go_wp2_with fail
  refine HW.out.mono ?_
  rintro e w' ⟨rfl, hb⟩
  go_wp2_with fail
  go_returns
  exact ⟨by simp, hb⟩

def AskPostF (f : FieldD) (i : Int) (w : World) (e : Ending) (w' : World) : Prop :=
  Below w.heap.size w w' ∧ ((askFErr f (inB i 0 (f.weeders - 1)) ≠ 0 ∧ e = .returned (.tuple #[.slice none 0 0, iv (askFErr f (inB i 0 (f.weeders - 1)))])) ∨
    (askFErr f (inB i 0 (f.weeders - 1)) = 0 ∧ ∃ v, e = .returned (.tuple #[v, iv 0]) ∧ IntsAt w' v (askF f i)))

/-- Whether rows settle a weeder, as ProveAsk answers. -/
def proveAskB (f : FieldD) (i : Int) (rows : List Int) : Bool := decide (askFErr f (inB i 0 (f.weeders - 1)) = 0) && (isTurns (f.rows - 1) rows && settlesF f i rows)

theorem turns_bd {last : Int} {l : List Int} (h0 : 0 ≤ last) (h : isTurns last l = true) : ∀ r ∈ l, 0 ≤ r ∧ r ≤ last := by
  intro r hr
  have h1 := (turns_inc h0 l).1 h
  have := ((inc_pairwise l 0).1 h1).2 r hr
  omega

theorem wProveAsk_any (f : FieldD) (tv rvv : Value) (i : Int) (rows : List Int) (w : World) (ht : TalliesAt w tv f.tallies) (hr : IntsAt w rvv rows) (h0 : -1000 ≤ f.weeders) (h1 : f.weeders ≤ 1000) :
    Calls Try.prog 63 #[fv f tv, iv i, rvv] w (PV (.bool (proveAskB f i rows)) w) := by
  obtain ⟨o, c, rfl⟩ := ht.open
  obtain ⟨ro, rc, rfl⟩ := hr.open
  have hrl := hr.len
  have HA := Lib.hid (wasked_any f (.slice o f.tallies.length c) 83 #[.pointer (some ⟨w.heap.size, 0, none⟩), .pointer (some ⟨w.heap.size + 1, 0, none⟩)] (inB i 0 (f.weeders - 1)) ((w.alloc (.cells (fcells f (.slice o f.tallies.length c)) 30)).alloc (.cells #[iv i] 3)) ((ht.alloc _).alloc _)
    (enters_of Try.func83 (by kernel_rfl) rfl) (fun W hB => pask1_any f (.slice o f.tallies.length c) i _ _ W ((hB.block _ (by simp; omega)).trans ((Below.heap_alloc _ _ _ (by simp)).trans (heap_new0 _ _))) ((hB.block _ (by simp)).trans (heap_new1 _ _ _)) h0 h1))
  have HR := Lib.hid hr
  clear ht hr
  obtain ⟨q, hq⟩ : ∃ q, askFErr f (inB i 0 (f.weeders - 1)) = q := ⟨_, rfl⟩
  obtain ⟨r, hrr⟩ : ∃ r, proveAskB f i rows = r := ⟨_, rfl⟩
  rw [hrr]
  have HQ := Lib.hid hq
  have HRR := Lib.hid hrr
  clear hrr
  go_enter Try.func63, Try.ntmps63
  go_wp2_with fail
  refine HA.out.mono ?_
  rintro e w1 ⟨hb, ⟨hne, rfl⟩ | ⟨h0, wb, v, rfl, hwb, hwk⟩⟩
  · have HB := Lib.hid (show Below w.heap.size w w1 from (by repeat (first | exact Below.refl _ _ | assumption | refine bgo ?_ (by assumption) | refine bgoAlloc ?_ _ | refine bgoDrew ?_ | refine bgoSet ?_ (by simp; omega) _)))
    rw [hq] at hne ⊢
    have hneb : (q == 0) = false := by simpa using hne
    have hF : r = false := by rw [← HRR.out]; unfold proveAskB; rw [hq, decide_eq_false hne]; rfl
    have HF := Lib.hid hF
    clear hb hne hq hF
    go_wp2_with fail
    go_returns
    exact ⟨by rw [HF.out]; simp, HB.out⟩
  have HB := Lib.hid (show Below w.heap.size w w1 from (by repeat (first | exact Below.refl _ _ | assumption | refine bgo ?_ (by assumption) | refine bgoAlloc ?_ _ | refine bgoDrew ?_ | refine bgoSet ?_ (by simp; omega) _)))
  obtain ⟨hS, hpos, _⟩ := ask_sound h0
  have hr0 := hS.rows0
  have hr7 := hS.rows1
  have hk0 := (hb.block w.heap.size (by simp; omega)).trans ((Below.heap_alloc (w.alloc (.cells (fcells f (.slice o f.tallies.length c)) 30)) (.cells #[iv i] 3) _ (by simp)).trans (heap_new0 _ _))
  have hk1 := (hb.block (w.heap.size + 1) (by simp)).trans (heap_new1 w (.cells (fcells f (.slice o f.tallies.length c)) 30) (.cells #[iv i] 3))
  have hsz1 := hb.size
  simp only [World.size_alloc] at hsz1
  have HWK := Lib.hid hwk
  have HS := Lib.hid hS
  have HK1 := Lib.hid (And.intro hk0 hk1)
  have hF : r = (isTurns (f.rows - 1) rows && settlesF f i rows) := by rw [← HRR.out]; unfold proveAskB; rw [h0]; rfl
  have HF := Lib.hid hF
  clear hb h0 hS hpos hq hk0 hk1 hwk hF
  go_wp2_with fail
  go_loopw [21] (fun u wr => ∃ k : Nat, k ≤ rows.length ∧ u = .int .i64 k ∧ Below w1.heap.size w1 wr ∧ ∀ j, j < k → askT (f.rows - 1) (-1) rows j = true) (fun u _ => rows.length - (intOf u).toNat)
  case atStart => exact ⟨0, Nat.zero_le _, rfl, (by repeat (first | exact Below.refl _ _ | assumption | refine bgo ?_ (by assumption) | refine bgoAlloc ?_ _ | refine bgoDrew ?_ | refine bgoSet ?_ (by simp; omega) _)), fun j hj => by omega⟩
  case round =>
    obtain ⟨k, hk, rfl, hB, hno⟩ := hrel
    have hbk := (hB.block _ (by omega)).trans HK1.out.1
    have hbi := (hB.block _ (by omega)).trans HK1.out.2
    obtain ⟨cc0, cf0, cl0⟩ := cells_of_block hbk
    obtain ⟨cc1, cf1, cl1⟩ := cells_of_block hbi
    have HBk := Lib.hid hB
    have HNO := Lib.hid hno
    clear hB hno hbk hbi
    by_cases hlt : k < rows.length
    · have hiv := HR.out.below (bgo HB.out HBk.out) (Nat.le_refl _)
      have hask := askT_of hlt HNO.out
      have hgk : rows.getD k 0 = rows[k] := by simp [List.getD, hlt]
      obtain ⟨b, off, rfl, hb, hc0⟩ := IntsAt.cell hiv hlt
      rw [hgk] at hask
      have hisrow := isRow_any f (.slice o f.tallies.length c) rows[k] wr (by omega) (by omega)
      have hprev : k ≠ 0 → ∃ y, wr.cell? ⟨b, off + (k - 1), none⟩ = some (iv y) ∧ rows.getD (k - 1) 0 = y := fun hk0 => by
        obtain ⟨b', off', hv', _, hc'⟩ := IntsAt.cell hiv (show k - 1 < rows.length by omega)
        cases hv'
        exact ⟨_, hc', by simp [List.getD, show k - 1 < rows.length by omega]⟩
      generalize rows[k] = x at *
      obtain ⟨q1, hq1⟩ : ∃ q1, inB x 0 (f.rows - 1) = q1 := ⟨_, rfl⟩
      rw [hq1] at hisrow hask
      have HI := Lib.hid hisrow
      have HASK := Lib.hid hask
      clear hiv hisrow hask hq1 hgk
      cases q1
      · have hret : r = false := by rw [HF.out, isTurns_at hlt (by rw [HASK.out]; rfl)]; rfl
        have HRET := Lib.hid hret
        clear hret hprev
        go_wp2_with fail
        refine HI.out.mono ?_
        rintro e w' ⟨rfl, hb⟩
        go_wp2_with fail
        go_returns
        exact ⟨by rw [HRET.out]; simp, bgo (bgo HB.out HBk.out) hb⟩
      · by_cases hk0 : k = 0
        · subst hk0
          clear hprev
          rw [Nat.add_zero] at hc0
          simp only [Int.natCast_zero]
          go_wp2_with fail
          refine HI.out.mono ?_
          rintro e w' ⟨rfl, hb⟩
          have HB' := Lib.hid (bgo HBk.out hb)
          clear hb
          go_wp2_with fail
          go_roundw
          case rel => exact ⟨1, by omega, by go_num, HB'.out, fun j hj => by rw [show j = 0 by omega, HASK.out]; rfl⟩
          case measure => simp [intOf]; omega
        · obtain ⟨y, hcy, hy⟩ := hprev hk0
          obtain ⟨m, rfl⟩ : ∃ m, k = m + 1 := ⟨k - 1, by omega⟩
          simp only [Nat.add_sub_cancel] at hcy hy
          have hask2 : askT (f.rows - 1) (-1) rows (m + 1) = !decide (x ≤ y) := by rw [HASK.out, Nat.add_sub_cancel, hy]; simp
          have HA2 := Lib.hid hask2
          have HB2 := Lib.hid (show True from trivial)
          clear hprev hy hask2 HB2
          by_cases hxy : x ≤ y
          · have hret : r = false := by rw [HF.out, isTurns_at hlt (by rw [HA2.out]; simp [hxy])]; rfl
            have HRET := Lib.hid hret
            clear hret
            go_wp2_with fail
            refine HI.out.mono ?_
            rintro e w' ⟨rfl, hb⟩
            obtain ⟨hc, hf⟩ := bcell hb
            have HB' := Lib.hid (bgo (bgo HB.out HBk.out) hb)
            clear hb
            go_wp2_with fail
            go_returns
            exact ⟨by rw [HRET.out]; simp, HB'.out⟩
          · have hxyb : decide (x ≤ y) = false := by simpa using hxy
            have HXY := Lib.hid hxyb
            go_wp2_with fail
            refine HI.out.mono ?_
            rintro e w' ⟨rfl, hb⟩
            obtain ⟨hc, hf⟩ := bcell hb
            have HB' := Lib.hid (bgo HBk.out hb)
            clear hb
            go_wp2_with fail
            go_roundw
            case rel =>
              refine ⟨m + 1 + 1, by omega, by go_num, HB'.out, fun j hj => ?_⟩
              by_cases hjm : j = m + 1
              · subst hjm; rw [HA2.out, HXY.out]; rfl
              · exact HNO.out j (by omega)
            case measure => simp [intOf]; omega
    · have hkl : k = rows.length := by omega
      subst hkl
      have htu : isTurns (f.rows - 1) rows = true := isTurns_all HNO.out
      have hrt := turns_bd (show 0 ≤ f.rows - 1 by omega) htu
      have hst := settles_any f HS.out (.slice o f.tallies.length c) v _ wb i rows wr (HWK.out.below HBk.out (Nat.le_refl _)) (HR.out.below (bgo HB.out HBk.out) (Nat.le_refl _)) (fun r hr => by have := hrt r hr; omega)
      have hF : r = settlesF f i rows := by rw [HF.out, htu]; rfl
      rw [← hF] at hst
      have HST := Lib.hid hst
      clear htu hrt hst hF
      go_wp2_with fail
      refine HST.out.mono ?_
      rintro e w' ⟨rfl, hb⟩
      go_wp2_with fail
      go_returns
      exact ⟨by simp, bgo (bgo HB.out HBk.out) hb⟩

/-! ### Whether a list is a truth -/
def saysB (f : FieldD) (n : Int) : Bool := n == -1 || inB n 0 (f.weeders - 1)
def proveTruthB (f : FieldD) (l : List Int) : Bool := decide (faultF f = 0) && (decide ((l.length : Int) = f.rows) && (l.all (saysB f) && rightF f [] l))

theorem ptruth1_any (f : FieldD) (tv : Value) (n : Int) (bf : Nat) (w : World) (hf : w.heap[bf]? = some (.cells (fcells f tv) 30 (0, 0))) (h0 : -1000 ≤ f.weeders) (h1 : f.weeders ≤ 1000) :
    Calls Try.prog 58 #[iv n, .pointer (some ⟨bf, 0, none⟩)] w (PV (.bool (saysB f n)) w) := by
  have HW := Lib.hid (isWeeder_any f tv n w h0 h1)
  obtain ⟨c1, f1, l1⟩ := cells_of_block hf
  clear hf
  by_cases hn : n = -1
  · subst hn
    go_enter Try.func58, Try.ntmps58
    go_wp2
    go_returns
    exact ⟨by simp [saysB], Below.refl _ _⟩
  · have hnb : (n == -1) = false := by simpa using hn
    go_enter Try.func58, Try.ntmps58
    go_wp2_with fail
    refine HW.out.mono ?_
    rintro e w' ⟨rfl, hb⟩
    go_wp2_with fail
    go_returns
    exact ⟨by simp [saysB, hnb], hb⟩

theorem copy_ints (ty : TypeId) {W : World} {g : Nat} {so : Option Addr} {c : Nat} {l : List Int} (hs : IntsAt W (.slice so l.length c) l) (h1 : 1 ≤ l.length) (h7 : l.length ≤ 7) (hg : W.heap[g]? = some (.cells #[iv 0, iv 0, iv 0, iv 0, iv 0, iv 0, iv 0] 105 (0, 0))) :
    ∃ W', (Builtin.copy_ #[36, 36] ty #[.slice (some ⟨g, 0, none⟩) 7 7, .slice so l.length c]).run Try.prog W = .ok (iv l.length) W' ∧ W'.heap[g]? = some (.cells (intCells (pad7 l)).toArray 105 (0, 0)) ∧ Ext [g] W W' := by
  obtain ⟨so', c', hv, hl, hn, hc⟩ := hs.news
  cases hv
  cases so with
  | none => have := (hn rfl).2; omega
  | some a =>
    have hil : (intCells l).length = l.length := by simp [intCells]
    have h := run_copy_row (P := Try.prog) W 36 36 ty 3 g 0 7 7 a l.length c _ 105 (intCells l) (by kernel_rfl) (by kernel_rfl) hg (by rw [hil]; exact (Nat.min_eq_left h7).symm) (hc a rfl) (by rw [hil]; simpa using h7) (one_ints l)
    rw [hil] at h
    refine ⟨_, h, ?_, ⟨rfl, rfl, rfl, by simp, fun k _ hm => setRow_other _ _ _ _ (by simpa using hm)⟩⟩
    rw [setRow_heap W g _ _ _ _ hg]
    congr 3
    have e : (#[iv 0, iv 0, iv 0, iv 0, iv 0, iv 0, iv 0] : Array Value).toList = List.replicate 7 (iv 0) := rfl
    rw [e, List.drop_replicate, List.take_zero, List.nil_append, Nat.zero_add]
    unfold pad7 intCells
    rw [List.map_append, List.map_replicate]

theorem wProveTruth_any (f : FieldD) (tv rvv : Value) (l : List Int) (w : World) (ht : TalliesAt w tv f.tallies) (hr : IntsAt w rvv l) :
    Calls Try.prog 33 #[fv f tv, rvv] w (PV (.bool (proveTruthB f l)) w) := by
  obtain ⟨o, c, rfl⟩ := ht.open
  obtain ⟨ro, rc, rfl⟩ := hr.open
  have hrl := hr.len
  have HC := Lib.hid (checkF_any f (.slice o f.tallies.length c))
  have HT := Lib.hid ht
  have HR := Lib.hid hr
  clear ht hr
  obtain ⟨q, hq⟩ : ∃ q, faultF f = q := ⟨_, rfl⟩
  rw [hq] at HC
  obtain ⟨r, hrr⟩ : ∃ r, proveTruthB f l = r := ⟨_, rfl⟩
  rw [hrr]
  have HRR := Lib.hid hrr
  clear hrr
  by_cases hq0 : q = 0
  case neg =>
    have hneb : (q != 0) = true := by simpa using hq0
    have hF : r = false := by rw [← HRR.out]; unfold proveTruthB; rw [hq, decide_eq_false hq0]; rfl
    have HF := Lib.hid hF
    clear hF hq hq0
    go_enter Try.func33, Try.ntmps33
    go_wp2_with fail
    refine (HC.out _ (HT.out.alloc _)).mono ?_
    rintro e w' ⟨rfl, hb⟩
    go_wp2_with fail
    go_returns
    exact ⟨by rw [HF.out]; simp, (by repeat (first | exact Below.refl _ _ | assumption | refine bgo ?_ (by assumption) | refine bgoAlloc ?_ _ | refine bgoDrew ?_ | refine bgoSet ?_ (by simp; omega) _))⟩
  subst hq0
  have hS := soundF_of hq
  have hr0 := hS.rows0
  have hr7 := hS.rows1
  have HS := Lib.hid hS
  have hF : r = (decide ((l.length : Int) = f.rows) && (l.all (saysB f) && rightF f [] l)) := by rw [← HRR.out]; unfold proveTruthB; rw [hq]; rfl
  clear hq hS
  by_cases hlen : (l.length : Int) = f.rows
  case neg =>
    have hneb : ((l.length : Int) != f.rows) = true := by simpa using hlen
    have hF : r = false := by rw [hF, decide_eq_false hlen]; rfl
    have HF := Lib.hid hF
    clear hF hlen
    go_enter Try.func33, Try.ntmps33
    go_wp2_with fail
    refine (HC.out _ (HT.out.alloc _)).mono ?_
    rintro e w' ⟨rfl, hb⟩
    obtain ⟨hc, hf⟩ := bcell hb
    have hz0 : w.heap.size < w'.heap.size := (by have := hb.size; (try simp only [World.size_alloc] at this); omega)
    go_wp2_with fail
    go_returns
    exact ⟨by rw [HF.out]; simp, (by repeat (first | exact Below.refl _ _ | assumption | refine bgo ?_ (by assumption) | refine bgoAlloc ?_ _ | refine bgoDrew ?_ | refine bgoSet ?_ (by simp; omega) _))⟩
  have hneb : ((l.length : Int) != f.rows) = false := by simpa using hlen
  have hl1 : 1 ≤ l.length := by omega
  have hl7 : l.length ≤ 7 := by omega
  rw [decide_eq_true hlen, Bool.true_and] at hF
  have HLEN := Lib.hid hlen
  have hw0 := HS.out.weed0
  have hw1 := HS.out.weed1
  obtain ⟨q, hq⟩ : ∃ q, l.all (saysB f) = q := ⟨_, rfl⟩
  rw [hq] at hF
  have HF := Lib.hid hF
  have HALL := Lib.hid (fun (w' : World) (hB : Below w.heap.size w w') (hk : w'.heap[w.heap.size]? = some (.cells (fcells f (.slice o f.tallies.length c)) 30 (0, 0))) =>
    hq ▸ wallI_pure l (.slice ro l.length rc) 58 #[] #[.pointer (some ⟨w.heap.size, 0, none⟩)] (saysB f) w' (HR.out.below hB (Nat.le_refl _)) (enters_of Try.func58 (by kernel_rfl) rfl)
      (fun x _ W hW => ptruth1_any f (.slice o f.tallies.length c) x w.heap.size W ((hW.block _ (Array.getElem?_eq_some_iff.1 hk).1).trans hk) (by omega) (by omega)))
  clear hF hlen hq
  go_enter Try.func33, Try.ntmps33
  go_wp2_with fail
  refine (HC.out _ (HT.out.alloc _)).mono ?_
  rintro e w' ⟨rfl, hb⟩
  obtain ⟨hc, hf⟩ := bcell hb
  have hz0 : w.heap.size < w'.heap.size := (by have := hb.size; (try simp only [World.size_alloc] at this); omega)
  have HB := Lib.hid (show Below w.heap.size w w' from (by repeat (first | exact Below.refl _ _ | assumption | refine bgo ?_ (by assumption) | refine bgoAlloc ?_ _ | refine bgoDrew ?_ | refine bgoSet ?_ (by simp; omega) _)))
  have HK := Lib.hid ((hb.block _ (by simp)).trans (heap_new0 w (.cells (fcells f (.slice o f.tallies.length c)) 30)))
  clear hb
  go_wp2_with fail
  refine (HALL.out w' HB.out HK.out).mono ?_
  rintro e w2 ⟨rfl, hb⟩
  have HB2 := Lib.hid (bgo HB.out hb)
  have hk2 := (hb.block _ hz0).trans HK.out
  clear hb hc hf hz0
  cases q
  · have hF : r = false := by rw [HF.out]; rfl
    have HF' := Lib.hid hF
    clear hF
    go_wp2_with fail
    go_returns
    exact ⟨by rw [HF'.out]; simp, HB2.out⟩
  have hF : r = rightF f [] l := by rw [HF.out]; rfl
  have HF' := Lib.hid hF
  clear hF
  go_upto_region 4 with (fail)
  refine gworld fun W3 hW3 => ?_
  have hB3 : Below w2.heap.size w2 W3 := by rw [hW3]; exact (by repeat (first | exact Below.refl _ _ | assumption | refine bgo ?_ (by assumption) | refine bgoAlloc ?_ _ | refine bgoDrew ?_ | refine bgoSet ?_ (by simp; omega) _))
  have hk3 : W3.heap[w2.heap.size]? = some (.cells #[iv 0, iv 0, iv 0, iv 0, iv 0, iv 0, iv 0] 105 (0, 0)) := by rw [hW3]; exact heap_new0 _ _
  obtain ⟨W4, hcp, hk4, hE4⟩ := copy_ints 3 (HR.out.below (bgo HB2.out hB3) (Nat.le_refl _)) hl1 hl7 hk3
  clear hW3
  have hs3 := hB3.size
  have hw2 : w.heap.size < w2.heap.size := (Array.getElem?_eq_some_iff.1 hk2).1
  have hB4 : Below w.heap.size w W4 := below_of_ext (bgo HB2.out hB3) hE4 (by omega)
  have hbf4 := (hE4.block w.heap.size (by omega) (by simp; omega)).trans ((hB3.block _ hw2).trans hk2)
  obtain ⟨y0, y1, y2, y3, y4, y5, y6, hys⟩ := seven_of (pad7_len hl7)
  have hright := right_any f HS.out o c (pad7 l) (pad7_len hl7) (.slice none 0 0) [] W4 (HT.out.below hB4 (Nat.le_refl _)) (ints_nil W4)
  rw [right_pad, ← HF'.out, hys] at hright
  have hright' : Calls Try.prog 60 #[fv f (.slice o f.tallies.length c), .agg #[iv y0, iv y1, iv y2, iv y3, iv y4, iv y5, iv y6], .slice none 0 0] W4 (PV (.bool r) W4) := hright
  rw [hys] at hk4
  have hk4' : W4.heap[w2.heap.size]? = some (.cells #[iv y0, iv y1, iv y2, iv y3, iv y4, iv y5, iv y6] 105 (0, 0)) := hk4
  obtain ⟨c1, f1, l1⟩ := cells_of_block hbf4
  obtain ⟨c2, f2, l2⟩ := cells_of_block hk4'
  have HX := Lib.hid (And.intro hB4 hright')
  clear hB4 hright hright' hk4 hk4' hbf4 hys hE4 hB3 hk3
  go_wp2_with fail
  refine HX.out.2.mono ?_
  rintro e w5 ⟨rfl, hb⟩
  go_wp2_with fail
  go_returns
  exact ⟨by simp, bgo HX.out.1 hb⟩

end Go.Proofs.Ytechgmnkcijahaa

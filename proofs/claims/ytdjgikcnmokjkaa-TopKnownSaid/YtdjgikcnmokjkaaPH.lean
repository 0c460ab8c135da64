/-
  Contracts of package weed, eighth part: whether rows settle a weeder.
-/
import Derived.WalkKit
import Derived.WalkLawsBesides
import Derived.WalkSpells
import Derived.Outline
import Derived.Handy
import Derived.KernelRfl
import Derived.Lib.Hide
import Derived.Test.YtdjgikcnmokjkaaPG
namespace Go.Proofs.Ytdjgikcnmokjkaa
open Go.RowKit Go.RG Go.SL Go.Shelf Cou Go.TB
set_option maxHeartbeats 400000
set_option maxRecDepth 10000

/-- What the table of what is known holds, behind the first truths. -/
structure KnT (f : FieldD) (ls : List (List Int)) (i : Int) (rows : List Int) (k : Nat) (T : List (List Int × Int)) : Prop where
  has : ∀ j, j < k → ∀ x, ls[j]? = some x → TB.look (keyF rows x) T = some (doneF f x i)
  only : ∀ key n, TB.look key T = some n → ∃ j, j < k ∧ ∃ x, ls[j]? = some x ∧ keyF rows x = key ∧ doneF f x i = n

theorem KnT.zero (f : FieldD) (ls : List (List Int)) (i : Int) (rows : List Int) : KnT f ls i rows 0 [] := ⟨fun j hj => by omega, fun key n h => by cases h⟩
theorem KnT.new {f : FieldD} {ls : List (List Int)} {i : Int} {rows : List Int} {k : Nat} {T : List (List Int × Int)} (h : KnT f ls i rows k T) {x : List Int} (hx : ls[k]? = some x) (hn : TB.look (keyF rows x) T = none) : KnT f ls i rows (k + 1) (TB.store (keyF rows x) (doneF f x i) T) := by
  refine ⟨fun j hj y hy => ?_, fun key n hl => ?_⟩
  · rw [look_store]
    by_cases e : j = k
    · subst e; rw [hx] at hy; cases hy; rw [if_pos rfl]
    · have := h.has j (by omega) y hy
      rw [if_neg (fun e => by rw [e, hn] at this; cases this), this]
  · rw [look_store] at hl
    split at hl
    · rename_i e; cases hl; exact ⟨k, by omega, x, hx, e.symm, rfl⟩
    · obtain ⟨j, hj, y, h1, h2⟩ := h.only key n hl
      exact ⟨j, by omega, y, h1, h2⟩
theorem KnT.old {f : FieldD} {ls : List (List Int)} {i : Int} {rows : List Int} {k : Nat} {T : List (List Int × Int)} (h : KnT f ls i rows k T) {x : List Int} (hx : ls[k]? = some x) (hn : TB.look (keyF rows x) T = some (doneF f x i)) : KnT f ls i rows (k + 1) T := by
  refine ⟨fun j hj y hy => ?_, fun key n hl => ?_⟩
  · by_cases e : j = k
    · subst e; rw [hx] at hy; cases hy; exact hn
    · exact h.has j (by omega) y hy
  · obtain ⟨j, hj, y, h1, h2⟩ := h.only key n hl
    exact ⟨j, by omega, y, h1, h2⟩

theorem settles_yes {f : FieldD} {i : Int} {rows : List Int} (hr : ∀ r ∈ rows, 0 ≤ r ∧ r < 7) {T : List (List Int × Int)} (h : KnT f (truthsF f []) i rows (truthsF f []).length T) : settlesF f i rows = true := by
  rw [settlesF_iff]
  intro a ha b hb hs
  obtain ⟨j, hj, rfl⟩ := List.getElem_of_mem ha
  obtain ⟨m, hm, rfl⟩ := List.getElem_of_mem hb
  have h1 := h.has j hj _ (List.getElem?_eq_getElem hj)
  have h2 := h.has m hm _ (List.getElem?_eq_getElem hm)
  rw [(keyF_eq hr).2 hs, h2] at h1
  injection h1 with h1
  exact h1.symm
theorem settles_no {f : FieldD} {i : Int} {rows : List Int} (hr : ∀ r ∈ rows, 0 ≤ r ∧ r < 7) {T : List (List Int × Int)} {k : Nat} (h : KnT f (truthsF f []) i rows k T) {x : List Int} (hx : (truthsF f [])[k]? = some x) {n : Int} (hn : TB.look (keyF rows x) T = some n) (hne : n ≠ doneF f x i) :
    settlesF f i rows = false := by
  cases hs : settlesF f i rows
  · rfl
  · rw [settlesF_iff] at hs
    obtain ⟨j, hj, y, h1, h2, h3⟩ := h.only _ _ hn
    have := hs y (List.mem_of_getElem? h1) x (List.mem_of_getElem? hx) ((keyF_eq hr).1 h2)
    exact absurd (h3.symm.trans this) hne

set_option maxHeartbeats 1600000 in
theorem settles_any (f : FieldD) (hS : SoundF f) (tv v rvv : Value) (wb : Nat) (i : Int) (rows : List Int) (w : World) (hw : WkAt w wb f tv v (truthsF f [])) (hr : IntsAt w rvv rows) (hrows : ∀ r ∈ rows, 0 ≤ r ∧ r < 7) :
    Calls Try.prog 47 #[.pointer (some ⟨wb, 0, none⟩), iv i, rvv] w (PV (.bool (settlesF f i rows)) w) := by
  have hmm := @run_makeMap Try.prog
  have hYES := Lib.hid (fun T h => settles_yes (f := f) (i := i) hrows (T := T) h)
  have hNO := Lib.hid (fun T k h x hx n hn hne => settles_no (f := f) (i := i) hrows (T := T) (k := k) h (x := x) hx (n := n) hn hne)
  have hlen7 : ∀ x ∈ truthsF f [], x.length ≤ 7 := fun x hx => by have := truthsF_len hx; have := hS.rows1; omega
  have hcnt := truthsF_count hS []
  obtain ⟨vo, vc, rfl⟩ := hw.truth.open
  obtain ⟨ro, rc, rfl⟩ := hr.open
  obtain ⟨o, c, rfl⟩ := hw.tal.open
  generalize truthsF f [] = ls at *
  obtain ⟨c1, f1, l1⟩ := cells_of_block hw.cells
  have hrl := hr.len
  have HW := Lib.hid hw
  have HR := Lib.hid hr
  have HS := Lib.hid hS
  have HL := Lib.hid (And.intro hlen7 hrows)
  clear hw hr hS hlen7 hrows
  go_enter Try.func47, Try.ntmps47
  go_wp2_with fail
  go_loopw [21] (fun u wr => ∃ k : Nat, k ≤ ls.length ∧ u = .int .i64 k ∧ Below w.heap.size w wr ∧ ∃ T, TabAt aggI iv Len7 wr w.heap.size T ∧ KnT f ls i rows k T) (fun u _ => ls.length - (intOf u).toNat)
  case atStart => exact ⟨0, Nat.zero_le _, rfl, (by repeat (first | exact Below.refl _ _ | assumption | refine bgo ?_ (by assumption) | refine bgoAlloc ?_ _ | refine bgoDrew ?_ | refine bgoSet ?_ (by simp; omega) _)), [], new_tab (heap_new0 _ _), KnT.zero _ _ _ _⟩
  case round =>
    obtain ⟨k, hk, rfl, hB, T, hT, hK⟩ := hrel
    by_cases hlt : k < ls.length
    · have hwr := HW.out.below hB (Nat.le_refl _)
      obtain ⟨d1, g1, m1⟩ := cells_of_block hwr.cells
      obtain ⟨b, off, y0, y1, y2, y3, y4, y5, y6, hvv, hb, hys, r0, r1, r2, r3, r4, r5, r6⟩ := ans_cell hwr.truth HL.out.1 hlt
      subst hvv
      have hxk : ls[k]? = some ls[k] := List.getElem?_eq_getElem hlt
      generalize ls[k] = x at *
      have hD := done7_any f (.slice o f.tallies.length c) _ y0 y1 y2 y3 y4 y5 y6 hys i HS.out
      have hdb := doneF_bd HS.out x i
      obtain ⟨d, hd⟩ : ∃ d, doneF f x i = d := ⟨_, rfl⟩
      rw [hd] at hD hdb
      have HD := Lib.hid (And.intro hD hd)
      have HX := Lib.hid (And.intro hxk hys)
      have HK := Lib.hid (And.intro hB (And.intro hT hK))
      have hltI : (k : Int) < ls.length := by omega
      clear hD hd hxk hys hB hT hK hwr
      go_upto_region 6 with (fail)
      refine gworld fun W6 hW6 => ?_
      have hB6 : Below wr.heap.size wr W6 := by rw [hW6]; exact (by repeat (first | exact Below.refl _ _ | assumption | refine bgo ?_ (by assumption) | refine bgoAlloc ?_ _ | refine bgoDrew ?_ | refine bgoSet ?_ (by simp; omega) _))
      have hk9 : W6.heap[wr.heap.size]? = some (.cells #[iv y0, iv y1, iv y2, iv y3, iv y4, iv y5, iv y6] 96 (0, 0)) := by rw [hW6]; exact (Below.heap_alloc _ _ _ (by simp)).trans (heap_new0 _ _)
      have hk10 : W6.heap[wr.heap.size + 1]? = some (.cells #[iv 0, iv 0, iv 0, iv 0, iv 0, iv 0, iv 0] 96 (0, 0)) := by rw [hW6]; exact heap_new1 _ _ _
      have hs6 : wr.heap.size + 1 < W6.heap.size := by rw [hW6]; simp
      clear hW6 d1 g1 m1 r0 r1 r2 r3 r4 r5 r6 hb
      have HR6 := Lib.hid (HR.out.below (bgo HK.out.1 hB6) (Nat.le_refl _))
      have HW6 := Lib.hid (HW.out.below (bgo HK.out.1 hB6) (Nat.le_refl _))
      have HT6 := Lib.hid (HK.out.2.1.below hB6 (Nat.le_refl _))
      have hmw : w.heap.size < wr.heap.size := HK.out.2.1.lt
      have HB6 := Lib.hid (bgo HK.out.1 hB6)
      have HK9 := Lib.hid hk9
      have HKN := Lib.hid HK.out.2.2
      have hwb6 : wb < wr.heap.size := by have := HK.out.1.size; omega
      have hx0 : (intCells (keyF [] x)).toArray = #[iv 0, iv 0, iv 0, iv 0, iv 0, iv 0, iv 0] := rfl
      rw [← hx0] at hk10
      clear hB6 hk9 hx0 HK
      generalize wr.heap.size = b9 at *
      go_wp2_with fail
      go_loopw [27] (fun u wq => ∃ q : Nat, q ≤ rows.length ∧ u = .int .i64 q ∧ wq.heap[b9 + 1]? = some (.cells (intCells (keyF (rows.take q) x)).toArray 96 (0, 0)) ∧ Ext [b9 + 1] W6 wq) (fun u _ => rows.length - (intOf u).toNat)
      case atStart => exact ⟨0, Nat.zero_le _, rfl, hk10, Ext.refl _ _⟩
      case round =>
        obtain ⟨q, hq, rfl, hkey, hE⟩ := hrel
        have h9 := (hE.block b9 (by omega) (by simp)).trans HK9.out
        by_cases hlq : q < rows.length
        · have hrq := HR6.out.ext hE (by
            intro z hz e
            obtain rfl : z = b9 + 1 := by simpa using hz
            obtain ⟨b', off', hb', hlt', _⟩ := IntsAt.cell HR.out (show 0 < rows.length by omega)
            rw [hb'] at e
            simp [Value.ownBlock] at e
            omega)
          obtain ⟨rb, roff, rfl, hrb, hrc⟩ := IntsAt.cell hrq hlq
          obtain ⟨hr0, hr7⟩ := HL.out.2 _ (List.getElem_mem hlq)
          obtain ⟨rn, hrn⟩ : ∃ rn : Nat, rows[q] = rn := ⟨rows[q].toNat, by omega⟩
          rw [hrn] at hrc hr0 hr7
          have hks : (keyF (rows.take q) x).set rn (x.getD rn 0) = keyF (rows.take (q + 1)) x := by
            have := keyF_snoc (rows.take q) x (rn : Int) (by omega) (by omega)
            rw [show ((rn : Nat) : Int).toNat = rn from by omega] at this
            rw [this, List.take_succ_eq_append_getElem hlq, hrn]
          have hrn7 : rn < 7 := by omega
          have hl9 : wr.cell? ⟨b9, rn, none⟩ = some (iv (x.getD rn 0)) := by
            rw [← pad7_get, HX.out.2]
            have : (#[iv y0, iv y1, iv y2, iv y3, iv y4, iv y5, iv y6] : Array Value) = (intCells [y0, y1, y2, y3, y4, y5, y6]).toArray := rfl
            rw [this] at h9
            have h := cell_of_ints h9 (show rn < [y0, y1, y2, y3, y4, y5, y6].length from hrn7)
            rw [h]
            simp [List.getD, hrn7]
          have hl10 := cell_of_ints hkey (show rn < (keyF (rows.take q) x).length by rw [keyF_len]; omega)
          generalize hz : (keyF (rows.take q) x)[rn]'(by rw [keyF_len]; omega) = z at hl10
          generalize x.getD rn 0 = xr at *
          have hb9s := World.block_lt_of_cell? wr _ hl9
          have hb10s := World.block_lt_of_cell? wr _ hl10
          have hfr := frozen_of_block hkey rn
          have HKEY := Lib.hid hkey
          have HKS := Lib.hid hks
          have HE := Lib.hid hE
          have hlqI : (q : Int) < rows.length := by omega
          clear hkey hks hE hrn hrq h9 hz
          go_wp2_with fail
          go_roundw
          case rel =>
            refine ⟨q + 1, by omega, by go_num, ?_, HE.out.trans (ext_set _ ⟨b9 + 1, rn, none⟩ _)⟩
            rw [← HKS.out, ← set_ints]
            exact set_block HKEY.out _
          case measure => simp [intOf]; omega
        · have hql : q = rows.length := by omega
          subst hql
          rw [List.take_length] at hkey
          obtain ⟨k0, k1, k2, k3, k4, k5, k6, hks⟩ := seven_of (keyF_len rows x)
          have hky : (intCells (keyF rows x)).toArray = #[iv k0, iv k1, iv k2, iv k3, iv k4, iv k5, iv k6] := by rw [hks]; rfl
          have hka : aggI (keyF rows x) = .agg #[iv k0, iv k1, iv k2, iv k3, iv k4, iv k5, iv k6] := congrArg Value.agg hky
          have hT9 : TabAt aggI iv Len7 wr w.heap.size T := HT6.out.ext hE (by simp; omega)
          have hlook := fun cm => look_run keyAns (mt := 139) (e := 3) (by kernel_rfl) (z := iv 0) (fun W => by simp [go_sem]) hT9 (keyF rows x) (keyF_len _ _) cm wr rfl
          have hw9 : wr.heap[wb]? = some (.cells (wkcells f (.slice o f.tallies.length c) (.slice (some ⟨b, off, none⟩) ls.length vc)) 93 (0, 0)) := (hE.block _ HW6.out.lt (by simp; omega)).trans HW6.out.cells
          have hbw : Below w.heap.size w wr := HB6.out.trans ⟨hE.os, hE.tape, hE.output, hE.size, fun k' hk' => hE.block k' (by have := HB6.out.size; omega) (by simp; omega)⟩
          have hkey2 := hkey
          rw [hky] at hkey2
          obtain ⟨e1, e2, e3⟩ := cells_of_block hkey2
          obtain ⟨q1, q2, q3⟩ := cells_of_block h9
          obtain ⟨s1, s2, s3⟩ := cells_of_block hw9
          have HT9 := Lib.hid hT9
          have HBW := Lib.hid hbw
          have HKA := Lib.hid hka
          obtain ⟨lk, hlk⟩ : ∃ lk, TB.look (keyF rows x) T = lk := ⟨_, rfl⟩
          rw [hlk] at hlook
          have HLK := Lib.hid hlk
          rw [hka] at hlook
          clear hkey hkey2 hks hky hka hT9 hE hw9 hbw h9 hlk
          cases lk with
          | none =>
            simp only [Option.map_none, Option.getD_none, Option.isSome_none] at hlook
            have hlk := hlook true
            simp only [if_true] at hlk
            clear hlook
            go_upto_region 13 with (fail)
            refine wp_region_rg 9 [] none [(8, Spec.val (iv d))] (by kernel_rfl) (by kernel_rfl) ?_
            simp only [List.take_succ_cons, List.take_zero, List.drop_succ_cons, List.drop_zero]
            repeat (first | (refine tree_det (by rfl) _ (by rfl) (fun W hW => by go_simp; (try simp (disch := omega) only [IntWalk.i64_in]); try rfl) ?_; simp only [Act.put, List.setIfInBounds_toArray, List.set_cons_succ, List.set_cons_zero]) | (refine tree_skip (by rfl) (by rfl) ?_; simp only [Act.put, List.setIfInBounds_toArray, List.set_cons_succ, List.set_cons_zero]))
            refine tree_val _ (by rfl) (by rfl) 43 _ (fun W hW => by go_simp; try rfl) (fun W hE hF => by exact HD.out.1 W) ?_
            simp only [Act.put, List.setIfInBounds_toArray, List.set_cons_succ, List.set_cons_zero]
            intro W hE hF
            obtain ⟨hc, hf⟩ := bcell hE.below
            have hzE := hE.size
            (try simp only [World.size_alloc] at hzE)
            obtain ⟨W8, hrun, hT8, hE8⟩ := store_run keyAns (mt := 139) (e := 3) (by kernel_rfl) (HT9.out.below hE.below (Nat.le_refl _)) (keyF rows x) (keyF_len _ _) d
            rw [HKA.out] at hrun
            have hB8 := below_of_ext (bgo HBW.out hE.below) hE8 (Nat.le_refl _)
            have hK8 := HKN.out.new HX.out.1 HLK.out
            rw [HD.out.2] at hK8
            have H8 := Lib.hid (And.intro hB8 (And.intro hT8 hK8))
            clear hB8 hT8 hK8 hE8 hE hF hc hf e1 e2 e3 q1 q2 q3 s1 s2 s3 hlk
            go_wp2_with fail
            go_roundw
            case rel => exact ⟨k + 1, by omega, by go_num, H8.out.1, _, H8.out.2.1, H8.out.2.2⟩
            case measure => simp [intOf]; omega
          | some n =>
            simp only [Option.map_some, Option.getD_some, Option.isSome_some] at hlook
            have hlk := hlook true
            simp only [if_true] at hlk
            clear hlook
            by_cases hnd : n = d
            · rw [hnd] at hlk HLK
              go_upto_region 14 with (fail)
              refine wp_region_rg 9 [] none [(7, Spec.val (iv d))] (by kernel_rfl) (by kernel_rfl) ?_
              simp only [List.take_succ_cons, List.take_zero, List.drop_succ_cons, List.drop_zero]
              repeat (first | (refine tree_det (by rfl) _ (by rfl) (fun W hW => by go_simp; (try simp (disch := omega) only [IntWalk.i64_in]); try rfl) ?_; simp only [Act.put, List.setIfInBounds_toArray, List.set_cons_succ, List.set_cons_zero]) | (refine tree_skip (by rfl) (by rfl) ?_; simp only [Act.put, List.setIfInBounds_toArray, List.set_cons_succ, List.set_cons_zero]))
              refine tree_val _ (by rfl) (by rfl) 43 _ (fun W hW => by go_simp; try rfl) (fun W hE hF => by exact HD.out.1 W) ?_
              simp only [Act.put, List.setIfInBounds_toArray, List.set_cons_succ, List.set_cons_zero]
              repeat (first | (refine tree_det (by rfl) _ (by rfl) (fun W hW => by go_simp; (try simp (disch := omega) only [IntWalk.i64_in]); try rfl) ?_; simp only [Act.put, List.setIfInBounds_toArray, List.set_cons_succ, List.set_cons_zero]) | (refine tree_skip (by rfl) (by rfl) ?_; simp only [Act.put, List.setIfInBounds_toArray, List.set_cons_succ, List.set_cons_zero]))
              intro W hE hF
              obtain ⟨hc, hf⟩ := bcell hE.below
              have hzE := hE.size
              (try simp only [World.size_alloc] at hzE)
              have hK8 := HKN.out.old HX.out.1 (by rw [HLK.out, HD.out.2])
              have H8 := Lib.hid (And.intro (bgo HBW.out hE.below) (And.intro (HT9.out.below hE.below (Nat.le_refl _)) hK8))
              clear hK8 hE hF hc hf e1 e2 e3 q1 q2 q3 s1 s2 s3 hlk
              go_wp2_with fail
              go_roundw
              case rel => exact ⟨k + 1, by omega, by go_num, H8.out.1, _, H8.out.2.1, H8.out.2.2⟩
              case measure => simp [intOf]; omega
            · have hndb : (n != d) = true := by simpa using hnd
              have HND := Lib.hid hnd
              clear hnd
              go_upto_region 14 with (fail)
              refine wp_region_rg 9 [] none [(7, Spec.val (iv d))] (by kernel_rfl) (by kernel_rfl) ?_
              simp only [List.take_succ_cons, List.take_zero, List.drop_succ_cons, List.drop_zero]
              repeat (first | (refine tree_det (by rfl) _ (by rfl) (fun W hW => by go_simp; (try simp (disch := omega) only [IntWalk.i64_in]); try rfl) ?_; simp only [Act.put, List.setIfInBounds_toArray, List.set_cons_succ, List.set_cons_zero]) | (refine tree_skip (by rfl) (by rfl) ?_; simp only [Act.put, List.setIfInBounds_toArray, List.set_cons_succ, List.set_cons_zero]))
              refine tree_val _ (by rfl) (by rfl) 43 _ (fun W hW => by go_simp; try rfl) (fun W hE hF => by exact HD.out.1 W) ?_
              simp only [Act.put, List.setIfInBounds_toArray, List.set_cons_succ, List.set_cons_zero]
              repeat (first | (refine tree_det (by rfl) _ (by rfl) (fun W hW => by go_simp; (try simp (disch := omega) only [IntWalk.i64_in]); try rfl) ?_; simp only [Act.put, List.setIfInBounds_toArray, List.set_cons_succ, List.set_cons_zero]) | (refine tree_skip (by rfl) (by rfl) ?_; simp only [Act.put, List.setIfInBounds_toArray, List.set_cons_succ, List.set_cons_zero]))
              intro W hE hF
              obtain ⟨hc, hf⟩ := bcell hE.below
              have hzE := hE.size
              (try simp only [World.size_alloc] at hzE)
              have hNo := hNO.out _ _ HKN.out _ HX.out.1 _ HLK.out (by rw [HD.out.2]; exact HND.out)
              have H8 := Lib.hid (And.intro (bgo HBW.out hE.below) hNo)
              clear hNo hE hF hc hf e1 e2 e3 q1 q2 q3 s1 s2 s3 hlk
              go_wp2_with fail
              go_returns
              exact ⟨by rw [H8.out.2]; simp, H8.out.1⟩
    · have hkl : k = ls.length := by omega
      subst hkl
      have H8 := Lib.hid (And.intro hB (hYES.out _ hK))
      clear hB hT hK
      go_wp2_with fail
      go_returns
      exact ⟨by rw [H8.out.2]; simp, H8.out.1⟩

end Go.Proofs.Ytdjgikcnmokjkaa

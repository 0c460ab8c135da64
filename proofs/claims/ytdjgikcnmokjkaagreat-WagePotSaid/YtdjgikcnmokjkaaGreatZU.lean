/-
  Contract of the law's Noted: notes that are right in a truth, a box that allows it, and this truth.
-/
import Derived.WalkKit
import Derived.WalkLawsBesides
import Derived.WalkSpells
import Derived.Outline
import Derived.Handy
import Derived.KernelRfl
import Derived.Lib.Hide
import Derived.BigRegion
import Derived.Deep.Cut
import Derived.Test.YtdjgikcnmokjkaaGreatZT
import Derived.Test.YtdjgikcnmokjkaaGreatVT
import Derived.Test.YtdjgikcnmokjkaaGreatZV
namespace Go.Proofs.YtdjgikcnmokjkaaGreat
open Go.RowKit Go.RG Go.SL Go.Shelf Cou Go.TB
set_option maxHeartbeats 400000
set_option maxRecDepth 10000

/-- The lesser, the greater of two numbers. -/
theorem min_goN (ats : Array TypeId) (ty : TypeId) (a b : Int) : Builtin.min_ ats ty #[.int .i64 a, .int .i64 b] = pure (.int .i64 (min a b)) := by
  have h : Builtin.min_ ats ty #[.int .i64 a, .int .i64 b] = pure (.int .i64 (if b < a then b else a)) := rfl
  rw [h]
  have e : (if b < a then b else a) = min a b := by
    by_cases c : b < a
    · rw [if_pos c]; omega
    · rw [if_neg c]; omega
  rw [e]
theorem max_goN (ats : Array TypeId) (ty : TypeId) (a b : Int) : Builtin.max_ ats ty #[.int .i64 a, .int .i64 b] = pure (.int .i64 (max a b)) := by
  have h : Builtin.max_ ats ty #[.int .i64 a, .int .i64 b] = pure (.int .i64 (if a < b then b else a)) := rfl
  rw [h]
  have e : (if a < b then b else a) = max a b := by
    by_cases c : a < b
    · rw [if_pos c]; omega
    · rw [if_neg c]; omega
  rw [e]
attribute [local go_sem ↓] min_goN max_goN

theorem getD_push {ps : List Int} {k : Nat} {x : Int} (hl : ps.length = k) (i : Nat) : (ps ++ [x]).getD i 0 = if i < k then ps.getD i 0 else if i = k then x else 0 := by
  simp only [List.getD, List.getElem?_append, hl]
  split
  · rfl
  · by_cases e : i = k
    · subst e; simp
    · rw [if_neg e, List.getElem?_eq_none (by simp; omega)]
      rfl

/-- A ledger with another box and other notes. -/
def notedG (l : LedgerD) (box : Rng) (ns : List Rdg) : LedgerD := ⟨l.field, l.rate, box, ns⟩
/-- What Noted returns. -/
def PNoted (l : LedgerD) (tv : Value) (w : World) (e : Ending) (w' : World) : Prop := ∃ (rows ps : List Int) (ns : List Rdg) (box : Rng) (u v : Value) (no : Option Addr) (nc : Nat),
  e = .returned (.tuple #[lv (notedG l box ns) tv (.slice no ns.length nc), .agg #[u, v]]) ∧ TriplesAt w' (.slice no ns.length nc) ns ∧ IntsAt w' u rows ∧ IntsAt w' v ps ∧ TruthW (notedG l box ns) rows ps ∧ ns.length ≤ 5 ∧ Below w.heap.size w w'

theorem tNotesN : SliceT Tryz.prog 28 77 (xv (0, 0, 0)) 3 24 := ⟨Tryz.underlying28, by kernel_rfl, rfl, by omega⟩

set_option maxHeartbeats 8000000 in
theorem Noted_any {l : LedgerD} (hS : SoundL l) (tv nv wdv : Value) (words : List (Fin 65536)) (w : World) (ht : TalliesAt w tv l.field.tallies) (hn : TriplesAt w nv l.notes) (hwd : WordsAt w wdv words) :
    Calls Tryz.prog 39 #[lv l tv nv, wdv] w (PNoted l tv w) := by
  obtain ⟨owd, cwd, rfl⟩ := hwd.open
  obtain ⟨on, cn, rfl⟩ := hn.open
  obtain ⟨ot, ct, rfl⟩ := ht.open
  have hF := soundF_of hS.field
  obtain ⟨n, hnw⟩ : ∃ n : Nat, l.field.weeders = n := ⟨l.field.weeders.toNat, by have := hF.weed0; omega⟩
  have hwt : l.field.weeders.toNat = n := by omega
  have hn3 : n ≤ 3 := by have := hF.weed1; omega
  have hn1 : 1 ≤ n := by have := hF.weed0; omega
  have HNW := Lib.hid (And.intro hnw hwt)
  have HS := Lib.hid (And.intro hS hF)
  have HT := Lib.hid ht
  have HWD := Lib.hid hwd
  clear hS hF hnw hwt ht hn hwd
  go_enter Tryz.func39, Tryz.ntmps39
  go_wp2_with fail
  refine gworldC fun W0 hW0 => ?_
  have HB0 := Lib.hid (show Below w.heap.size w W0 from by rw [hW0]; exact (by repeat (first | exact Below.refl _ _ | assumption | refine bgo ?_ (by assumption) | refine bgoAlloc ?_ _ | refine bgoDrew ?_ | refine bgoSet ?_ (by simp; omega) _)))
  have HA0 := Lib.hid (show W0.heap[w.heap.size]? = some (.cells (lcells l (.slice ot l.field.tallies.length ct) (.slice on l.notes.length cn)) 30 (0, 0)) from by rw [hW0]; exact (Below.heap_alloc _ _ _ (by first | omega | (simp; done) | (simp; omega))).trans ((Below.heap_alloc _ _ _ (by first | omega | (simp; done) | (simp; omega))).trans (heap_new0 _ _)))
  have HR0 := Lib.hid (show W0.heap[w.heap.size + 1]? = some (.cells #[iv 0, iv 0, iv 0, iv 0, .slice none 0 0, iv 0, iv 0, iv 0, .slice none 0 0] 30 (0, 0)) from by rw [hW0]; exact (Below.heap_alloc _ _ _ (by first | omega | (simp; done) | (simp; omega))).trans (heap_new1 _ _ _))
  have HZ0 := Lib.hid (show W0.heap[w.heap.size + 1 + 1]? = some (.cells #[.slice none 0 0, .slice none 0 0] 70 (0, 0)) from by rw [hW0]; exact heap_new2 _ _ _ _)
  clear hW0
  refine (rTruths_own l.field HS.out.2 (.slice ot l.field.tallies.length ct) W0 (HT.out.below HB0.out (Nat.le_refl _))).mono ?_
  rintro e W1 ⟨ev, es, rfl, hles, hmap, hb⟩
  obtain ⟨eo, ec, rfl⟩ := owns_slice hles.row
  have hes : ListsAt W1 (.slice eo es.length ec) es := ⟨SlAt.of_owns hles.row, fun e he => SlAt.of_owns (hles.each e he).1⟩
  have hel := hes.1.len
  have hs0 := (cells_of_block HZ0.out).2.2
  have HB1 := Lib.hid (bgo HB0.out hb)
  have HK1 := Lib.hid (fun (b : Nat) (h : b < w.heap.size + 3) => hb.block b (by omega))
  have hz1 := hb.size
  have HES := Lib.hid (And.intro hes hmap)
  have HLE := Lib.hid (fun (e : LE) (he : e ∈ es) => owns_ge (hles.each e he).1)
  have hne : 0 < es.length := by
    rcases Nat.eq_zero_or_pos es.length with h | h
    · exfalso
      have h2 := List.eq_nil_of_length_eq_zero h
      rw [h2] at hmap
      obtain ⟨t, ht⟩ := List.exists_mem_of_ne_nil _ HS.out.1.some
      have := (mem_rtruths HS.out.2).2 ht
      rw [← hmap] at this
      cases this
    · exact h
  clear hb hes hmap hles
  have hq0b := wordV_bd words 0
  obtain ⟨q0, hq0⟩ : ∃ q, wordV words 0 = q := ⟨_, rfl⟩
  rw [hq0] at hq0b
  have HQ0 := Lib.hid hq0
  obtain ⟨J, hJ, hJl⟩ : ∃ J : Nat, q0.tmod es.length = (J : Int) ∧ J < es.length := by
    rw [Int.tmod_eq_emod_of_nonneg hq0b.1]
    have g1 := Int.emod_nonneg q0 (show (es.length : Int) ≠ 0 by omega)
    have g2 := Int.emod_lt_of_pos q0 (show (0 : Int) < es.length by omega)
    exact ⟨(q0 % (es.length : Int)).toNat, by omega, by omega⟩
  have hlz : ((es.length : Int) == 0) = false := by rw [beq_eq_false_iff_ne]; omega
  have hlz' : ¬ (es.length : Int) = 0 := by omega
  clear hq0
  go_wp2_with fail
  refine (word_any words (.slice owd words.length cwd) 0 W1 (HWD.out.below HB1.out (Nat.le_refl _)) (by omega)).mono ?_
  rw [HQ0.out]
  rintro e W2 ⟨rfl, hb⟩
  have HB2 := Lib.hid (And.intro (bgo HB1.out hb) hb)
  have HK2 := Lib.hid (fun (b : Nat) (h : b < w.heap.size + 3) => (hb.block b (by omega)).trans (HK1.out b h))
  have hz2 := hb.size
  have hia := (HES.out.1.2 _ (List.getElem_mem hJl)).below hb (Nat.le_refl _)
  obtain ⟨b, off, hv, hb1, dw⟩ := ListsAt.cell HES.out.1.1 hJl
  have dw := ((Ext.of_below (Ms := []) hb).cell _ _ hb1 (by simp)).trans dw
  have hmt : es[J].2 ∈ truthsF l.field [] := by
    rw [← mem_rtruths HS.out.2, ← HES.out.2]
    exact List.mem_map.2 ⟨_, List.getElem_mem hJl, rfl⟩
  have hb1 := Nat.lt_of_lt_of_le hb1 hb.size
  have hro := HLE.out _ (List.getElem_mem hJl)
  generalize es[J] = ee at *
  obtain ⟨vt, t⟩ := ee
  simp only at hmt hia dw hro
  obtain ⟨ro, rc, rfl⟩ := hia.open
  cases hv
  have HMT := Lib.hid (And.intro hmt hia)
  have HRO := Lib.hid (fun (g : Nat) (h : (Value.slice ro t.length rc).ownBlock = some g) => show w.heap.size + 3 ≤ g by have := (hro g h).1; omega)
  have hJI : (J : Int) < es.length := by omega
  have hA2 := (HK2.out w.heap.size (by omega)).trans HA0.out
  obtain ⟨c0, f0, l0⟩ := cells_of_block hA2
  clear hb hmt hia hA2 hro
  go_wp2_with fail
  refine gworldC fun W3 hW3 => ?_
  obtain ⟨bt, hbt⟩ : ∃ g, W2.heap.size = g := ⟨_, rfl⟩
  have hb3 : Below W2.heap.size W2 W3 := by rw [hW3]; exact bgoAlloc (Below.refl _ _) _
  have hz3 : W3.heap.size = bt + 1 := by rw [hW3, ← hbt]; simp
  have HTB3 := Lib.hid (show W3.heap[bt]? = some (.cells #[.slice ro t.length rc, .slice none 0 0] 70 (0, 0)) from by rw [hW3, ← hbt]; exact heap_new0 _ _)
  have HB3 := Lib.hid (bgo HB2.out.1 hb3)
  have HK3 := Lib.hid (fun (b : Nat) (h : b < w.heap.size + 3) => (hb3.block b (by omega)).trans (HK2.out b h))
  have HI3 := Lib.hid (HMT.out.2.below hb3 (Nat.le_refl _))
  have hwb : w.heap.size + 3 ≤ bt := by omega
  have HW2 := Lib.hid (And.intro hbt (fun (g : Nat) (h : g < bt) => hb3.block g (by omega)))
  rw [hbt]
  clear hW3 hb3 hbt c0 f0 l0 hz2 hz1 dw hb1
  have hF := HS.out.2
  have hrt := HS.out.1.rate
  have htl := row_len HS.out.1 HMT.out.1
  have HD := Lib.hid (zDues_any l (.slice ot l.field.tallies.length ct) (.slice on l.notes.length cn) (.slice ro t.length rc) t W3 HI3.out (by omega) (by have := hF.weed0; omega) hF.weed1 (by omega) hrt.2)
  have hdz := duesZ_eq hF (truthsF_len HMT.out.1)
  have hdl := dueV_length HS.out.1 t
  have hdb := dueV_bd HS.out.1 htl
  have hdg := fun (i : Nat) (hi : i < n) => due_get (l := l) t (w := i) (by have := HNW.out.2; omega)
  rw [hdz] at HD
  rw [HNW.out.2] at HD hdl
  generalize dueV l t = D at *
  have HDD := Lib.hid (And.intro hdl (And.intro hdb hdg))
  clear hF hrt htl hdz hdl hdb hdg
  refine HD.out.mono ?_
  rintro e W4 ⟨u, rfl, hu, hb⟩
  obtain ⟨uo, uc, rfl⟩ := owns_slice hu
  have HU4 := Lib.hid hu
  have HB4 := Lib.hid (bgo HB3.out hb)
  have HK4 := Lib.hid (fun (b : Nat) (h : b < w.heap.size + 3) => (hb.block b (by omega)).trans (HK3.out b h))
  have htb4 := (hb.block bt (by omega)).trans HTB3.out
  have HTB4 := Lib.hid htb4
  have hz4 := hb.size
  have HRI := Lib.hid (fun (W : World) (h : ∀ c, c < W4.heap.size → c ≠ bt → W.heap[c]? = W4.heap[c]?) => show IntsAt W (.slice ro t.length rc) t from by
    refine SlAt.kept HMT.out.2 (fun g off n c _ hlt => ?_)
    rw [HW2.out.1] at hlt
    exact (h g (by omega) (by omega)).trans ((hb.block g (by omega)).trans (HW2.out.2 g hlt)))
  clear hu hb HD htb4
  go_wp2_with fail
  clear HI3
  go_loopw [9] (fun u wr => ∃ k : Nat, k ≤ n ∧ u = .int .i64 k ∧ ∃ (ps : List Int) (po : Option Addr) (pc : Nat), ps.length = k ∧ (∀ i, i < k → 0 ≤ ps.getD i 0 ∧ ps.getD i 0 ≤ D.getD i 0) ∧ wr.heap[bt]? = some (.cells #[.slice ro t.length rc, .slice po k pc] 70 (0, 0)) ∧
      wr.ownsRow W4.heap.size 3 1 (.slice po k pc) k (intCells ps) ∧ Below w.heap.size w wr ∧ W4.heap.size ≤ wr.heap.size ∧ ∀ c, c < W4.heap.size → c ≠ bt → wr.heap[c]? = W4.heap[c]?) (fun u _ => n - (intOf u).toNat)
  case atStart => exact ⟨0, Nat.zero_le _, rfl, [], none, 0, rfl, (fun i hi => by omega), HTB4.out, ⟨rfl, .inl ⟨rfl, rfl⟩⟩, HB4.out, Nat.le_refl _, fun _ _ _ => rfl⟩
  case round =>
    obtain ⟨k, hk, rfl, ps, po, pc, hpl, hpd, hblk, hown, hB, hsw, hkeep⟩ := hrel
    have HKP := Lib.hid hkeep
    have HBL := Lib.hid hblk
    have HOW := Lib.hid hown
    have HB := Lib.hid hB
    have HPD := Lib.hid (And.intro hpl hpd)
    have HUR := Lib.hid (owns_keep HU4.out fun g hg => hkeep g (owns_ge HU4.out g hg).2 (by have := (owns_ge HU4.out g hg).1; omega))
    obtain ⟨c1, f1, l1⟩ := cells_of_block hblk
    clear hblk hown hB hpl hpd hkeep
    by_cases hlt : k < n
    · have hkD : k < D.length := by rw [HDD.out.1]; exact hlt
      obtain ⟨b2, off2, hv2, hl2, d2⟩ := IntsAt.cell (SlAt.of_owns HUR.out) hkD
      have hdk := HDD.out.2.1 _ (List.getElem_mem hkD)
      have HGD := Lib.hid (show D.getD k 0 = D[k] by simp [List.getD, hkD])
      generalize D[k] = dk at *
      have hq1b := wordV_bd words ((k : Int) + 1)
      obtain ⟨wv, hwv⟩ : ∃ q, wordV words ((k : Int) + 1) = q := ⟨_, rfl⟩
      rw [hwv] at hq1b
      have HWV := Lib.hid hwv
      obtain ⟨r, hr, hrb⟩ : ∃ r : Int, wv.tmod (dk + 3) = r ∧ 0 ≤ r ∧ r ≤ 400 := by
        refine ⟨_, rfl, ?_⟩
        rw [Int.tmod_eq_emod_of_nonneg hq1b.1]
        have g1 := Int.emod_nonneg wv (show dk + 3 ≠ 0 by omega)
        have g2 := Int.emod_lt_of_pos wv (show 0 < dk + 3 by omega)
        omega
      have hdz : (dk + 3 == 0) = false := by rw [beq_eq_false_iff_ne]; omega
      have hdz' : ¬ dk + 3 = 0 := by omega
      have hltn : (k : Int) < n := by omega
      obtain ⟨pay, hpay⟩ : ∃ pay, min dk r = pay := ⟨_, rfl⟩
      have HPB := Lib.hid (show 0 ≤ pay ∧ pay ≤ dk from by omega)
      cases hv2
      clear hwv
      go_wp2_with fail
      refine wp_region_rg 18 [] none [(9, Spec.val (iv wv)), (17, Spec.slice wr.heap.size #[iv pay] 3 1)] (by as_aux_lemma => kernel_rfl) (by as_aux_lemma => kernel_rfl) ?_
      simp only [List.take_succ_cons, List.take_zero, List.drop_succ_cons, List.drop_zero]
      repeat (first | (refine tree_det (by rfl) _ (by rfl) (fun W hW => by go_simp; (try simp (disch := omega) only [IntWalk.i64_in]); try rfl) ?_; simp only [Act.put, List.setIfInBounds_toArray, List.set_cons_succ, List.set_cons_zero]) | (refine tree_skip (by rfl) (by rfl) ?_; simp only [Act.put, List.setIfInBounds_toArray, List.set_cons_succ, List.set_cons_zero]))
      refine tree_val _ (by rfl) (by rfl) 91 #[.slice owd words.length cwd, iv ((k : Int) + 1)] (fun W hW => by go_simp; try rfl) (fun W hE hF => ?_) ?_
      · have := word_any words (.slice owd words.length cwd) ((k : Int) + 1) W (HWD.out.below (bgo HB.out (Ext.below (show Ext [] wr W from hE))) (Nat.le_refl _)) (by omega)
        rw [HWV.out] at this
        exact this
      simp only [Act.put, List.setIfInBounds_toArray, List.set_cons_succ, List.set_cons_zero]
      repeat (first | (refine tree_det (by rfl) _ (by rfl) (fun W hW => by go_simp; (try simp (disch := omega) only [IntWalk.i64_in]); try rfl) ?_; simp only [Act.put, List.setIfInBounds_toArray, List.set_cons_succ, List.set_cons_zero]) | (refine tree_skip (by rfl) (by rfl) ?_; simp only [Act.put, List.setIfInBounds_toArray, List.set_cons_succ, List.set_cons_zero]))
      refine tree_slice wr.heap.size _ _ 1 (by rfl) (Nat.le_refl _) (by rfl) (by simp) (by simp) (fun W hW => by go_simp; try rfl) (fun b5 => ?_)
      simp only [Act.put, List.setIfInBounds_toArray, List.set_cons_succ, List.set_cons_zero]
      repeat (first | (refine tree_det (by rfl) _ (by rfl) (fun W hW => by go_simp; (try simp (disch := omega) only [IntWalk.i64_in]); try rfl) ?_; simp only [Act.put, List.setIfInBounds_toArray, List.set_cons_succ, List.set_cons_zero]) | (refine tree_skip (by rfl) (by rfl) ?_; simp only [Act.put, List.setIfInBounds_toArray, List.set_cons_succ, List.set_cons_zero]))
      intro W5 hE hF
      have hE5 : Ext [] wr W5 := hE
      obtain ⟨b5', hb5, hge5, hc5⟩ := hF _ (List.Mem.head _)
      cases hb5
      have HE5 := Lib.hid hE5
      have HC5 := Lib.hid hc5
      have hz5 := hE5.size
      have HOW5 := Lib.hid (owns_ext (Ms := []) HOW.out hE5 (by simp))
      clear hE hF hE5 hc5 c1 f1 l1 d2
      go_wp2_with (at_builtin; go_loud (refine wpList_append_at rfl _ _ tInts rfl W4.heap.size (.slice po k pc) k (intCells ps) rfl HOW5.out (.slice (some ⟨b5, 0, none⟩) 1 1) 1 (intCells [pay]) rfl (SlAt.of_block 1 1 HC5.out rfl (by decide)) (one_ints _) (by omega) (by omega) (by omega) ?_))
      intro v' W6 hown6 hgr6 _
      obtain ⟨o6, c6, rfl⟩ := owns_slice hown6
      have hbt4 : bt < W4.heap.size := by omega
      have HP := Lib.hid (ap_push (i := 1) (u := .slice o6 (k + 1) c6) HB.out HOW.out HE5.out hown6 hgr6 hsw hbt4 (by omega) HBL.out)
      obtain ⟨hcr6, hfr6, hsr6⟩ := cells_of_block (((ap_push0 HB.out HOW.out HE5.out hown6 hgr6 (by have := HB4.out.size; omega) hsw).2.2 _ hbt4).trans HBL.out)
      clear hown6 hgr6
      go_wp2_with fail
      go_roundw
      case rel =>
        refine ⟨k + 1, by omega, by go_num, ps ++ [pay], o6, c6, by rw [List.length_append, HPD.out.1]; rfl, fun i hi => ?_, HP.out.2.2.2.1, ?_, HP.out.1, HP.out.2.1, fun c hc hne => (HP.out.2.2.2.2 c hc hne).trans (HKP.out c hc hne)⟩
        · rw [getD_push HPD.out.1]
          by_cases hik : i < k
          · rw [if_pos hik]
            exact HPD.out.2 i hik
          · obtain rfl : i = k := by omega
            rw [if_neg hik, if_pos rfl, HGD.out]
            exact HPB.out
        · rw [intCells_app]
          exact HP.out.2.2.1
      case measure => simp [intOf]; omega
    · obtain rfl : k = n := by omega
      have hnl : ¬ (k : Int) < k := by omega
      have hA := (HKP.out w.heap.size (by omega) (by omega)).trans ((HK4.out w.heap.size (by omega)).trans HA0.out)
      obtain ⟨c0, f0, l0⟩ := cells_of_block hA
      have hps : ∀ z ∈ ps, 0 ≤ z ∧ z ≤ 350 := fun z hz => by
        obtain ⟨i, hi, hie⟩ := List.getElem_of_mem hz
        have hik : i < k := by have := HPD.out.1; omega
        have h1 := HPD.out.2 i hik
        rw [show ps.getD i 0 = z from by rw [← hie]; simp [List.getD, hi]] at h1
        have hiD : i < D.length := by have := HDD.out.1; omega
        rw [show D.getD i 0 = D[i] from by simp [List.getD, hiD]] at h1
        have := HDD.out.2.1 _ (List.getElem_mem hiD)
        omega
      have HRB := Lib.hid (HRI.out wr HKP.out)
      have HPS := Lib.hid (And.intro (IntsAt.of_at (SlAt.of_owns HOW.out) HPD.out.1) hps)
      clear hA hps
      go_wp2_with fail
      refine gworldC fun W7 hW7 => ?_
      obtain ⟨bx, hbx⟩ : ∃ g, wr.heap.size = g := ⟨_, rfl⟩
      have hb7 : Below wr.heap.size wr W7 := by rw [hW7]; exact bgoAlloc (Below.refl _ _) _
      have HX7 := Lib.hid (show W7.heap[bx]? = some (.cells (lcells l (.slice ot l.field.tallies.length ct) (.slice on l.notes.length cn)) 30 (0, 0)) from by rw [hW7, ← hbx]; exact heap_new0 _ _)
      have hz7 : W7.heap.size = bx + 1 := by rw [hW7, ← hbx]; simp
      have HB7 := Lib.hid hb7
      have hs7 := HB4.out.size
      rw [hbx]
      obtain ⟨sm, hsm⟩ : ∃ s, sumI ps = s := ⟨_, rfl⟩
      have HSM := Lib.hid (zSum_any ps (.slice po k pc) W7 (HPS.out.1.below hb7 (Nat.le_refl _)) (fun z hz => by have := HPS.out.2 z hz; omega) (by have := HPD.out.1; omega))
      rw [hsm] at HSM
      have HSV := Lib.hid hsm
      clear hW7 hb7 hsm c0 f0 c1 f1
      refine HSM.out.mono ?_
      rintro e W8 ⟨rfl, hb⟩
      have hx8 := (hb.block bx (by omega)).trans HX7.out
      have hA8 := (hb.block w.heap.size (by omega)).trans ((HB7.out.block w.heap.size (by omega)).trans ((HKP.out w.heap.size (by omega) (by omega)).trans ((HK4.out w.heap.size (by omega)).trans HA0.out)))
      have HB8 := Lib.hid (And.intro (bgo HB7.out hb) hx8)
      have hz8 := hb.size
      obtain ⟨c0, f0, l0⟩ := cells_of_block hA8
      obtain ⟨cx, fx, lx⟩ := cells_of_block hx8
      clear hx8 hA8 hb HSM
      go_wp2_with fail
      refine gworld fun W9 hW9 => ?_
      have hq5b := wordV_bd words 5
      obtain ⟨q5, hq5⟩ : ∃ q, wordV words 5 = q := ⟨_, rfl⟩
      rw [hq5] at hq5b
      have HQ5 := Lib.hid hq5
      obtain ⟨N, hN⟩ : ∃ N : Nat, q5 % 6 = N := Int.eq_ofNat_of_zero_le (by omega)
      have hNm : q5.tmod 6 = N := by rw [Int.tmod_eq_emod_of_nonneg hq5b.1]; exact hN
      have hN5 : N ≤ 5 := by omega
      obtain ⟨box, hbox⟩ : ∃ box : Rng, (min l.box.1 sm, max l.box.2 sm) = box := ⟨_, rfl⟩
      have hX9 : W9.heap[bx]? = some (.cells (lcells (notedG l box []) (.slice ot l.field.tallies.length ct) (.slice none 0 0)) 30 (0, 0)) := by rw [hW9, ← hbox]; exact set_block (set_block (set_block HB8.out.2 _) _) _
      have hz9 : bx < W9.heap.size := by
        have : W9.heap.size = W8.heap.size := by rw [hW9]; simp [World.setCell]
        omega
      have hk9 : ∀ c, c < bx → W9.heap[c]? = wr.heap[c]? := fun c hc => by
        rw [hW9]
        exact (Below.heap_setCell _ _ _ _ (by show c ≠ bx; omega)).trans ((Below.heap_setCell _ _ _ _ (by show c ≠ bx; omega)).trans ((Below.heap_setCell _ _ _ _ (by show c ≠ bx; omega)).trans (HB8.out.1.block c (by omega))))
      have hB9 : Below w.heap.size w W9 := by rw [hW9]; exact bgoSet (bgoSet (bgoSet (bgo HB.out HB8.out.1) (by show w.heap.size ≤ bx; omega) _) (by show w.heap.size ≤ bx; omega) _) (by show w.heap.size ≤ bx; omega) _
      have HF := Lib.hid (fun (W : World) (h : ∀ c, c < bx → W.heap[c]? = wr.heap[c]?) => show IntsAt W (.slice po k pc) ps ∧ IntsAt W (.slice ro t.length rc) t ∧ W.heap[bt]? = some (.cells #[.slice ro t.length rc, .slice po k pc] 70 (0, 0)) ∧ W.heap[w.heap.size]? = some (.cells (lcells l (.slice ot l.field.tallies.length ct) (.slice on l.notes.length cn)) 30 (0, 0)) ∧
          W.heap[w.heap.size + 1]? = some (.cells #[iv 0, iv 0, iv 0, iv 0, .slice none 0 0, iv 0, iv 0, iv 0, .slice none 0 0] 30 (0, 0)) ∧ W.heap[w.heap.size + 1 + 1]? = some (.cells #[.slice none 0 0, .slice none 0 0] 70 (0, 0)) from by
        refine ⟨SlAt.kept HPS.out.1 (fun g off n c _ hlt => h g (by omega)), SlAt.kept HRB.out (fun g off n c _ hlt => h g (by omega)), (h bt (by omega)).trans HBL.out, ?_, ?_, ?_⟩
        · exact (h _ (by omega)).trans ((HKP.out _ (by omega) (by omega)).trans ((HK4.out _ (by omega)).trans HA0.out))
        · exact (h _ (by omega)).trans ((HKP.out _ (by omega) (by omega)).trans ((HK4.out _ (by omega)).trans HR0.out))
        · exact (h _ (by omega)).trans ((HKP.out _ (by omega) (by omega)).trans ((HK4.out _ (by omega)).trans HZ0.out)))
      have H9 := Lib.hid (And.intro hX9 (And.intro hk9 hB9))
      have HBX := Lib.hid hbox
      clear hq5 hN hW9 hX9 hk9 hB9 hbox c0 f0 l0 cx fx lx HB8 HB7 HX7
      go_loopw [12] (fun u wz => ∃ i : Nat, i ≤ N ∧ u = .int .i64 i ∧ ∃ (R : List Rdg) (oo : Option Addr) (oc : Nat), R.length = i ∧ (∀ x ∈ R, x.2.1 ≤ ps.getD x.1.toNat 0 ∧ ps.getD x.1.toNat 0 ≤ x.2.2) ∧ wz.heap[bx]? = some (.cells (lcells (notedG l box R) (.slice ot l.field.tallies.length ct) (.slice oo R.length oc)) 30 (0, 0)) ∧
          wz.ownsRow W9.heap.size 77 3 (.slice oo R.length oc) R.length (tripleCells R) ∧ Below w.heap.size w wz ∧ W9.heap.size ≤ wz.heap.size ∧ ∀ c, c < W9.heap.size → c ≠ bx → wz.heap[c]? = W9.heap[c]?) (fun u _ => N - (intOf u).toNat)
      case atStart => exact ⟨0, Nat.zero_le _, rfl, [], none, 0, rfl, (fun x hx => by cases hx), H9.out.1, ⟨rfl, .inl ⟨rfl, rfl⟩⟩, H9.out.2.2, Nat.le_refl _, fun _ _ _ => rfl⟩
      case round =>
        obtain ⟨i, hi, rfl, R, oo, oc, hRi, hRG, hblk, hown, hB', hsw', hkeep⟩ := hrel
        have hk9 : ∀ c, c < bx → wr.heap[c]? = W9.heap[c]? := fun c hc => hkeep c (by omega) (by omega)
        have HK9 := Lib.hid (fun (c : Nat) (hc : c < bx) => (hk9 c hc).trans (H9.out.2.1 c hc))
        have HFF := Lib.hid (HF.out wr (fun c hc => (hk9 c hc).trans (H9.out.2.1 c hc)))
        have HKQ := Lib.hid hkeep
        have HBL2 := Lib.hid hblk
        have HOW2 := Lib.hid hown
        have HB2' := Lib.hid hB'
        have HRG := Lib.hid hRG
        have hs9 := HB.out.size
        clear hkeep hblk hown hB' hRG hk9
        by_cases hlt : i < N
        case neg =>
          obtain rfl : i = N := by omega
          have hnN : ¬ (i : Int) < i := by omega
          go_wp2_with fail
          refine (word_any words (.slice owd words.length cwd) 5 wr (HWD.out.below HB2'.out (Nat.le_refl _)) (by omega)).mono ?_
          rw [HQ5.out]
          rintro e Wa ⟨rfl, hba⟩
          have HDa := Lib.hid hba
          have hsx0 := (cells_of_block HBL2.out).2.2
          have hst0 := (cells_of_block HFF.out.2.2.1).2.2
          obtain ⟨hcx, _, hsx⟩ := cells_of_block ((hba.block _ hsx0).trans HBL2.out)
          obtain ⟨hct, _, hst⟩ := cells_of_block ((hba.block _ hst0).trans HFF.out.2.2.1)
          have hrr := (hba.block _ (cells_of_block HFF.out.2.2.2.2.1).2.2).trans HFF.out.2.2.2.2.1
          have hzz := (hba.block _ (cells_of_block HFF.out.2.2.2.2.2).2.2).trans HFF.out.2.2.2.2.2
          have HRR := Lib.hid hrr
          have HZZ := Lib.hid hzz
          have hsR := (cells_of_block hrr).2.2
          have hsZ := (cells_of_block hzz).2.2
          have HBa := Lib.hid (bgo HB2'.out hba)
          have hnx1 : bx ≠ w.heap.size + 1 := by omega
          have hnx2 : bt ≠ w.heap.size + 1 := by omega
          have hnx3 : w.heap.size + 1 ≠ bx := by omega
          have hnx4 : w.heap.size + 1 ≠ bt := by omega
          clear hba hrr hzz
          go_wp2_with fail
          refine wp_region_rg 3 [w.heap.size + 1] (some 2) [(2, ⟨fun _ v => v = undef, fun _ _ Wx => Wx.heap[w.heap.size + 1]? = some (.cells (lcells (notedG l box R) (.slice ot l.field.tallies.length ct) (.slice oo R.length oc)) 30 (0, 0))⟩)] (by as_aux_lemma => kernel_rfl) (by as_aux_lemma => kernel_rfl) ?_
          simp only [List.take_succ_cons, List.take_zero, List.drop_succ_cons, List.drop_zero]
          repeat (first | (refine tree_det (by rfl) _ (by rfl) (fun W hW => by go_simp; try rfl) ?_; simp only [Act.put, List.setIfInBounds_toArray, List.set_cons_succ, List.set_cons_zero]) | (refine tree_skip (by rfl) (by rfl) ?_; simp only [Act.put, List.setIfInBounds_toArray, List.set_cons_succ, List.set_cons_zero]))
          refine tree_some _ (by rfl) (by rfl) (by exact ⟨_, rfl⟩) (fun W hE hF => ?_) (fun v Wa Wb ho hE => ?_) (fun v hv => ?_)
          · have hE' : Ext [] Wa W := hE
            have hbW := (hE'.block _ hsR (by simp)).trans HRR.out
            obtain ⟨hcw, hfw, hsw'⟩ := cells_of_block hbW
            refine does_skip (W' := (((((((((W.setCell ⟨w.heap.size + 1, 0, none⟩ (iv l.field.rows)).setCell ⟨w.heap.size + 1, 1, none⟩ (iv l.field.weeders)).setCell ⟨w.heap.size + 1, 2, none⟩ (iv l.field.left.1)).setCell ⟨w.heap.size + 1, 3, none⟩ (iv l.field.left.2)).setCell ⟨w.heap.size + 1, 4, none⟩ (.slice ot l.field.tallies.length ct)).setCell ⟨w.heap.size + 1, 5, none⟩ (iv l.rate)).setCell ⟨w.heap.size + 1, 6, none⟩ (iv box.1)).setCell ⟨w.heap.size + 1, 7, none⟩ (iv box.2)).setCell ⟨w.heap.size + 1, 8, none⟩ (.slice oo R.length oc))) (by go_simp; try rfl) ⟨rfl, set_nine hbW _ _ _ _ _ _ _ _ _, ?_⟩
            exact ext_nine _ _ _ _ _ _ _ _ _ _ _
          · have hE' : Ext [] Wa Wb := hE
            exact (hE'.block _ (Array.getElem?_eq_some_iff.1 ho).1 (by simp)).trans ho
          obtain rfl : v = _ := hv
          simp only [Act.put]
          intro Wc hE hF
          have hE' : Ext [w.heap.size + 1] Wa Wc := hE
          have HEc := Lib.hid hE'
          have HRW := Lib.hid (show Wc.heap[w.heap.size + 1]? = some (.cells (lcells (notedG l box R) (.slice ot l.field.tallies.length ct) (.slice oo R.length oc)) 30 (0, 0)) from hF _ (List.Mem.head _))
          have HZW := Lib.hid ((hE'.block _ hsZ (by simp)).trans HZZ.out)
          obtain ⟨hcz, _, hsz⟩ := cells_of_block HZW.out
          clear hE hF hE' hcx hct
          go_wp2_with fail
          obtain ⟨WF, hWF⟩ : ∃ WF, (Wc.setCell ⟨w.heap.size + 1 + 1, 0, none⟩ (.slice ro t.length rc)).setCell ⟨w.heap.size + 1 + 1, 1, none⟩ (.slice po k pc) = WF := ⟨_, rfl⟩
          obtain ⟨hc1, _, _⟩ := cells_of_block (show WF.heap[w.heap.size + 1]? = some (.cells (lcells (notedG l box R) (.slice ot l.field.tallies.length ct) (.slice oo R.length oc)) 30 (0, 0)) from by
            rw [← hWF]
            exact (Below.heap_setCell _ _ _ _ (by show w.heap.size + 1 ≠ w.heap.size + 1 + 1; omega)).trans ((Below.heap_setCell _ _ _ _ (by show w.heap.size + 1 ≠ w.heap.size + 1 + 1; omega)).trans HRW.out))
          obtain ⟨hc2, _, _⟩ := cells_of_block (show WF.heap[w.heap.size + 1 + 1]? = some (.cells #[.slice ro t.length rc, .slice po k pc] 70 (0, 0)) from by
            rw [← hWF]
            exact set_block (set_block HZW.out _) _)
          rw [hWF]
          clear hcz
          (try simp only [Exit.inBlock, Exit.then])
          refine bodyPost_ret (v := .tuple #[lv (notedG l box R) (.slice ot l.field.tallies.length ct) (.slice oo R.length oc), .agg #[.slice ro t.length rc, .slice po k pc]]) (by simp [results, Tryz.results39, go_sem, hc1, hc2]; try omega) rfl ?_
          have hkc : ∀ c, c < bx → c ≠ w.heap.size + 1 → c ≠ w.heap.size + 1 + 1 → WF.heap[c]? = wr.heap[c]? := fun c h1 h2 h3 => by
            rw [← hWF]
            exact (Below.heap_setCell _ _ _ _ h3).trans ((Below.heap_setCell _ _ _ _ h3).trans ((HEc.out.block c (by have := HDa.out.size; omega) (by simp; omega)).trans (HDa.out.block c (by omega))))
          refine ⟨t, ps, R, box, .slice ro t.length rc, .slice po k pc, oo, oc, rfl, ?_, ?_, ?_, ?_, by omega, ?_⟩
          · rw [← hWF]
            exact SlAt.of_owns (owns_ext (Ms := [w.heap.size + 1 + 1]) (owns_ext (Ms := [w.heap.size + 1 + 1]) (owns_ext (Ms := [w.heap.size + 1]) (owns_ext (Ms := []) HOW2.out (Ext.of_below HDa.out) (by simp)) HEc.out (by simp; omega)) (ext_set _ ⟨w.heap.size + 1 + 1, 0, none⟩ _) (by simp; omega)) (ext_set _ ⟨w.heap.size + 1 + 1, 1, none⟩ _) (by simp; omega))
          · refine SlAt.kept HRB.out (fun g off n c hv hlt => ?_)
            have h3 := HRO.out g (by rw [hv]; rfl)
            exact (hkc g (by omega) (by omega) (by omega)).trans (HK9.out g (by omega))
          · refine IntsAt.of_at (SlAt.of_owns (owns_keep HOW.out fun g hg => ?_)) HPD.out.1
            have h3 := owns_ge HOW.out g hg
            exact (hkc g (by omega) (by omega) (by omega)).trans (HK9.out g (by omega))
          · exact ⟨HMT.out.1, by rw [HPD.out.1]; exact HNW.out.2.symm, fun j hj => by
              have hj' : j < k := by have := HNW.out.2; unfold notedG at hj; simp only at hj; omega
              have h1 := HPD.out.2 j hj'
              rw [HDD.out.2.2 j hj'] at h1
              exact h1, by
              have h1 := HBX.out
              have h2 := HSV.out
              show box.1 ≤ sumI ps ∧ sumI ps ≤ box.2
              rw [← h1, h2]
              simp only
              omega, HRG.out⟩
          · rw [← hWF]
            exact bgoSet (bgoSet (below_of_ext HBa.out HEc.out (by omega)) (by show w.heap.size ≤ w.heap.size + 1 + 1; omega) _) (by show w.heap.size ≤ w.heap.size + 1 + 1; omega) _
        have hltI : (i : Int) < N := by omega
        have hRl : R.length ≤ 5 := by omega
        have HRL := Lib.hid hRi
        clear hRi
        have hqb := wordV_bd words ((i : Int) + 6)
        obtain ⟨wv, hwv⟩ : ∃ q, wordV words ((i : Int) + 6) = q := ⟨_, rfl⟩
        rw [hwv] at hqb
        have HWV := Lib.hid hwv
        have hwn := HNW.out.1
        obtain ⟨K, hK, hKn⟩ : ∃ K : Nat, wv.tmod l.field.weeders = (K : Int) ∧ K < k := by
          rw [hwn, Int.tmod_eq_emod_of_nonneg hqb.1]
          have g1 := Int.emod_nonneg wv (show (k : Int) ≠ 0 by omega)
          have g2 := Int.emod_lt_of_pos wv (show (0 : Int) < k by omega)
          exact ⟨(wv % (k : Int)).toNat, by omega, by omega⟩
        have hwz : (l.field.weeders == 0) = false := by rw [beq_eq_false_iff_ne]; omega
        have hwz' : ¬ l.field.weeders = 0 := by omega
        obtain ⟨d4, hd4, hd4b⟩ : ∃ d : Int, wv.tdiv 4 = d ∧ 0 ≤ d ∧ d ≤ 65535 := ⟨_, rfl, by rw [Int.tdiv_eq_ediv_of_nonneg hqb.1]; omega⟩
        obtain ⟨e4, he4, he4b⟩ : ∃ d : Int, d4.tmod 4 = d ∧ 0 ≤ d ∧ d ≤ 3 := ⟨_, rfl, by rw [Int.tmod_eq_emod_of_nonneg hd4b.1]; omega⟩
        obtain ⟨d16, hd16, hd16b⟩ : ∃ d : Int, wv.tdiv 16 = d ∧ 0 ≤ d ∧ d ≤ 65535 := ⟨_, rfl, by rw [Int.tdiv_eq_ediv_of_nonneg hqb.1]; omega⟩
        obtain ⟨e16, he16, he16b⟩ : ∃ d : Int, d16.tmod 4 = d ∧ 0 ≤ d ∧ d ≤ 3 := ⟨_, rfl, by rw [Int.tmod_eq_emod_of_nonneg hd16b.1]; omega⟩
        have hKp : K < ps.length := by rw [HPD.out.1]; exact hKn
        obtain ⟨pb, poff, hpv, hpl1, pcell⟩ := IntsAt.cell (l := ps) (IntsAt.at_ HFF.out.1 HPD.out.1) hKp
        have hpb := HPS.out.2 _ (List.getElem_mem hKp)
        have HGP := Lib.hid (show ps.getD K 0 = ps[K] by simp [List.getD, hKp])
        generalize ps[K] = p at *
        obtain ⟨lo, hlo⟩ : ∃ lo, max 0 (p - e4) = lo := ⟨_, rfl⟩
        obtain ⟨hi', hhi⟩ : ∃ h, min 2000 (p + e16) = h := ⟨_, rfl⟩
        have HGD := Lib.hid (show lo ≤ p ∧ p ≤ hi' from by omega)
        have hKI : (K : Int) < k := by omega
        cases hpv
        clear hwv hwn
        go_wp2_with fail
        refine (word_any words (.slice owd words.length cwd) 5 wr (HWD.out.below HB2'.out (Nat.le_refl _)) (by omega)).mono ?_
        rw [HQ5.out]
        rintro e Wa ⟨rfl, hba⟩
        have HDa := Lib.hid hba
        clear hba
        go_wp2_with fail
        refine (word_any words (.slice owd words.length cwd) ((i : Int) + 6) Wa ((HWD.out.below HB2'.out (Nat.le_refl _)).below HDa.out (Nat.le_refl _)) (by omega)).mono ?_
        rw [HWV.out]
        rintro e Wb ⟨rfl, hbb⟩
        have HDb := Lib.hid (bgo HDa.out hbb)
        have hsx0 := (cells_of_block HBL2.out).2.2
        obtain ⟨hca, fca, lca⟩ := cells_of_block ((HDb.out.block _ (cells_of_block HFF.out.2.2.2.1).2.2).trans HFF.out.2.2.2.1)
        obtain ⟨hct, fct, lct⟩ := cells_of_block ((HDb.out.block _ (cells_of_block HFF.out.2.2.1).2.2).trans HFF.out.2.2.1)
        have pcell := ((Ext.of_below (Ms := []) HDb.out).cell _ _ hpl1 (by simp)).trans pcell
        have hpl1 := Nat.lt_of_lt_of_le hpl1 HDb.out.size
        clear hbb
        go_upto_region 18 with (fail)
        refine gworld fun Wc hWc => ?_
        have HDc := Lib.hid (show Below wr.heap.size wr Wc from by rw [hWc]; exact bgoAlloc HDb.out _)
        have hnc : Wc.heap[Wb.heap.size]? = some (.cells #[iv K, iv 0, iv 0] 77 (0, 0)) := by rw [hWc]; exact heap_new0 _ _
        have HNC := Lib.hid hnc
        have hzb := HDb.out.size
        obtain ⟨hcn, fcn, lcn⟩ := cells_of_block hnc
        clear hWc hnc hca fca lca hct fct lct pcell hpl1
        go_upto_region 19 with (fail)
        refine gworld fun Wd hWd => ?_
        have HDd := Lib.hid (show Below wr.heap.size wr Wd from by rw [hWd]; exact bgoSet (bgoSet HDc.out (by show wr.heap.size ≤ Wb.heap.size; omega) _) (by show wr.heap.size ≤ Wb.heap.size; omega) _)
        have hnd : Wd.heap[Wb.heap.size]? = some (.cells #[iv K, iv lo, iv hi'] 77 (0, 0)) := by rw [hWd]; exact set_block (set_block HNC.out _) _
        obtain ⟨hcn, fcn, lcn⟩ := cells_of_block hnd
        obtain ⟨hcx, fcx, lcx⟩ := cells_of_block ((HDd.out.block _ hsx0).trans HBL2.out)
        have hzd := HDd.out.size
        have HE5 := Lib.hid (show Ext [] wr (Wd.alloc (.cells #[iv K, iv lo, iv hi'] 77)) from Ext.of_below (bgoAlloc HDd.out _))
        have HOW5 := Lib.hid (owns_ext (Ms := []) HOW2.out HE5.out (by simp))
        clear hWd hnd
        go_wp2_with (at_builtin; go_loud (refine wpList_append_at rfl _ _ tNotesN rfl W9.heap.size (.slice oo R.length oc) R.length (tripleCells R) rfl HOW5.out (.slice (some ⟨Wd.heap.size, 0, none⟩) 1 1) 1 (tripleCells [((K : Int), lo, hi')]) rfl (SlAt.of_block 3 1 (heap_new0 _ _) rfl (by decide)) (one_triples _) (by omega) (by omega) (by simp; omega) ?_))
        intro v' W6 hown6 hgr6 _
        obtain ⟨o6, c6, rfl⟩ := owns_slice hown6
        have hbx9 : bx < W9.heap.size := by omega
        have HP := Lib.hid (ap_push (i := 8) (u := .slice o6 (R.length + 1) c6) HB2'.out HOW2.out HE5.out hown6 hgr6 hsw' hbx9 (by omega) HBL2.out)
        obtain ⟨hcr6, hfr6, hsr6⟩ := cells_of_block (((ap_push0 HB2'.out HOW2.out HE5.out hown6 hgr6 (by omega) hsw').2.2 _ hbx9).trans HBL2.out)
        clear hown6 hgr6 hcx hcn fcx fcn
        go_wp2_with fail
        go_roundw
        case rel =>
          refine ⟨i + 1, by omega, by go_num, R ++ [((K : Int), lo, hi')], o6, c6, by rw [List.length_append, HRL.out]; rfl, fun x hx => ?_, ?_, ?_, HP.out.1, HP.out.2.1, fun c hc hne => (HP.out.2.2.2.2 c hc hne).trans (HKQ.out c hc hne)⟩
          · rcases List.mem_append.1 hx with hx | hx
            · exact HRG.out x hx
            · obtain rfl := List.mem_singleton.1 hx
              simp only [Int.toNat_natCast]
              rw [HGP.out]
              exact HGD.out
          · rw [List.length_append]
            exact HP.out.2.2.2.1
          · rw [List.length_append, noteCells_snoc]
            exact HP.out.2.2.1
        case measure => simp [intOf]; omega
end Go.Proofs.YtdjgikcnmokjkaaGreat

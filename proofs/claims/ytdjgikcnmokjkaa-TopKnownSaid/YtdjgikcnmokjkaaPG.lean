/-
  Contracts of package weed, seventh part: how many rows each weeder did.
-/
import Derived.WalkKit
import Derived.WalkLawsBesides
import Derived.WalkSpells
import Derived.Outline
import Derived.Handy
import Derived.KernelRfl
import Derived.Lib.Hide
import Derived.Test.YtdjgikcnmokjkaaPF
namespace Go.Proofs.Ytdjgikcnmokjkaa
open Go.RowKit Go.RG Go.SL Go.Shelf Cou Go.TB
set_option maxHeartbeats 400000
set_option maxRecDepth 10000

theorem wminimum_two (a b : Int) (g c : Nat) (w : World) (h0 : w.cell? ⟨g, 0, none⟩ = some (iv a)) (h1 : w.cell? ⟨g, 1, none⟩ = some (iv b)) :
    Calls Try.prog 81 #[.slice (some ⟨g, 0, none⟩) 2 c] w (PV (iv (min a b)) w) := by
  have H := Lib.hid (min_two a b g c w h0 h1)
  go_enter Try.func81, Try.ntmps81
  go_wp2_with fail
  refine H.out.mono ?_
  rintro e w' ⟨rfl, hb⟩
  go_wp2_with fail
  go_returns
  exact ⟨by simp, hb⟩

theorem wwider_any (r : Rng) (n : Int) (w : World) : Calls Try.prog 44 #[rv r, iv n] w (PV (rv (wid r n)) w) := by
  go_enter Try.func44, Try.ntmps44
  go_wp2_with fail
  refine wp_region_rg 10 [] none [(3, Spec.slice (w.heap.size + 2) #[iv r.1, iv n] 3 2), (4, Spec.val (iv (min r.1 n)))] (by kernel_rfl) (by kernel_rfl) ?_
  simp only [List.take_succ_cons, List.take_zero, List.drop_succ_cons, List.drop_zero]
  repeat (refine tree_det (by rfl) _ (by rfl) (fun W hW => by go_simp; (try simp (disch := omega) only [IntWalk.i64_in, Int.tdiv_eq_ediv_of_nonneg]); try rfl) ?_; simp only [Act.put, List.setIfInBounds_toArray, List.set_cons_succ, List.set_cons_zero])
  refine tree_slice (w.heap.size + 2) _ _ _ (by rfl) (by simp) (by rfl) (by simp) (by simp) (fun W hW => by go_simp; try rfl) (fun b => ?_)
  simp only [Act.put, List.setIfInBounds_toArray, List.set_cons_succ, List.set_cons_zero]
  refine tree_val _ (by rfl) (by rfl) 81 _ (fun W hW => by go_simp; try rfl) (fun W hE hF => ?_) ?_
  · obtain ⟨c, hcb, hB, hc⟩ := hF _ (List.Mem.head _) (by kernel_rfl)
    cases hcb
    exact wminimum_two r.1 n b 2 W (by simp [World.cell?, hc]) (by simp [World.cell?, hc])
  simp only [Act.put, List.setIfInBounds_toArray, List.set_cons_succ, List.set_cons_zero]
  repeat (refine tree_det (by rfl) _ (by rfl) (fun W hW => by go_simp; (try simp (disch := omega) only [IntWalk.i64_in, Int.tdiv_eq_ediv_of_nonneg]); try rfl) ?_; simp only [Act.put, List.setIfInBounds_toArray, List.set_cons_succ, List.set_cons_zero])
  intro W hE hF
  obtain ⟨hc, hf⟩ := bcell hE.below
  have hzE := hE.size
  (try simp only [World.size_alloc] at hzE)
  go_wp2
  all_goals
    (try simp only [Exit.inBlock, Exit.then])
    refine bodyPost_ret (v := rv (min r.1 n, max r.2 n)) (by simp [results, Try.results44, go_sem, hc]; try omega) rfl ?_
    exact ⟨rfl, (by repeat (first | exact Below.refl _ _ | assumption | refine bgo ?_ hE.below | refine bgo ?_ (by assumption) | refine bgoAlloc ?_ _ | refine bgoDrew ?_ | refine bgoSet ?_ (by simp; try omega) _))⟩

/-- The truth with a number lies in its seven cells. -/
theorem ans_cell {w : World} {o : Option Addr} {n c : Nat} {ls : List (List Int)} (h : SlAt 7 w (.slice o n c) ls.length (ansCells ls)) (h7 : ∀ x ∈ ls, x.length ≤ 7) {k : Nat} (hk : k < ls.length) :
    ∃ b off y0 y1 y2 y3 y4 y5 y6, o = some ⟨b, off, none⟩ ∧ b < w.heap.size ∧ pad7 ls[k] = [y0, y1, y2, y3, y4, y5, y6] ∧ w.cell? ⟨b, off + k * 7, none⟩ = some (iv y0) ∧ w.cell? ⟨b, off + k * 7 + 1, none⟩ = some (iv y1) ∧
      w.cell? ⟨b, off + k * 7 + 2, none⟩ = some (iv y2) ∧ w.cell? ⟨b, off + k * 7 + 3, none⟩ = some (iv y3) ∧ w.cell? ⟨b, off + k * 7 + 4, none⟩ = some (iv y4) ∧ w.cell? ⟨b, off + k * 7 + 5, none⟩ = some (iv y5) ∧ w.cell? ⟨b, off + k * 7 + 6, none⟩ = some (iv y6) := by
  obtain ⟨hl, o', c', hv, h1, h2, h3, h4⟩ := h
  cases hv
  obtain ⟨y0, y1, y2, y3, y4, y5, y6, hys⟩ := seven_of (pad7_len (h7 _ (List.getElem_mem hk)))
  cases o with
  | none => have := h3 rfl; omega
  | some a =>
    obtain ⟨b, off, sp⟩ := a
    obtain ⟨hs, hc⟩ := h4 _ rfl
    simp only at hs hc
    subst hs
    have g : ∀ j (hj : j < 7), (ansCells ls)[k * 7 + j]? = [iv y0, iv y1, iv y2, iv y3, iv y4, iv y5, iv y6][j]? := fun j hj => by
      unfold ansCells
      have : ∀ (ls : List (List Int)) (k : Nat) (hk : k < ls.length), (∀ x ∈ ls, x.length ≤ 7) → (ls.flatMap fun x => intCells (pad7 x))[k * 7 + j]? = (intCells (pad7 ls[k]))[j]? := by
        intro ls
        induction ls with
        | nil => intro k hk; simp at hk
        | cons x ls ih =>
          intro k hk h7
          have hx : (intCells (pad7 x)).length = 7 := by simp [intCells, pad7_len (h7 x (by simp))]
          rw [List.flatMap_cons]
          cases k with
          | zero => simp only [Nat.zero_mul, Nat.zero_add, List.getElem_cons_zero]; rw [List.getElem?_append_left (by omega)]
          | succ k =>
            rw [List.getElem?_append_right (by omega), hx, show (k + 1) * 7 + j - 7 = k * 7 + j from by omega]
            simpa using ih k (by simpa using hk) (fun y hy => h7 y (by simp [hy]))
      rw [this ls k hk h7, hys]
      rfl
    have r0 := hc (k * 7 + 0) (iv y0) (by rw [g 0 (by omega)]; rfl)
    have r1 := hc (k * 7 + 1) (iv y1) (by rw [g 1 (by omega)]; rfl)
    have r2 := hc (k * 7 + 2) (iv y2) (by rw [g 2 (by omega)]; rfl)
    have r3 := hc (k * 7 + 3) (iv y3) (by rw [g 3 (by omega)]; rfl)
    have r4 := hc (k * 7 + 4) (iv y4) (by rw [g 4 (by omega)]; rfl)
    have r5 := hc (k * 7 + 5) (iv y5) (by rw [g 5 (by omega)]; rfl)
    have r6 := hc (k * 7 + 6) (iv y6) (by rw [g 6 (by omega)]; rfl)
    rw [Nat.add_zero] at r0
    rw [← Nat.add_assoc] at r1 r2 r3 r4 r5 r6
    exact ⟨b, off, y0, y1, y2, y3, y4, y5, y6, rfl, World.block_lt_of_cell? w _ r0, hys, r0, r1, r2, r3, r4, r5, r6⟩

theorem done1_any (caps : Array Value) (hc : caps = #[]) (w : World) : Calls Try.prog 42 caps w (PV (.bool true) w) := by
  subst hc
  go_enter Try.func42, Try.ntmps42
  go_wp2
  go_returns
  exact ⟨by simp, Below.refl _ _⟩

/-- The bounds of a weeder's rows, in the first truths. -/
def rngF (f : FieldD) (ls : List (List Int)) (i : Int) (k : Nat) : Rng := (ls.take k).foldl (fun r a => wid r (doneF f a i)) (doneF f (ls.getD 0 []) i, doneF f (ls.getD 0 []) i)
theorem rngF_succ {f : FieldD} {ls : List (List Int)} {i : Int} {k : Nat} (hk : k < ls.length) : rngF f ls i (k + 1) = wid (rngF f ls i k) (doneF f ls[k] i) := by
  unfold rngF
  rw [List.take_succ_eq_append_getElem hk, List.foldl_append]
  rfl
theorem doneF_bd {f : FieldD} (hS : SoundF f) (a : List Int) (i : Int) : 0 ≤ doneF f a i ∧ doneF f a i ≤ 7 := by
  unfold doneF didT
  have := didL_bd a i (0 : Int).toNat (f.rows - 1 + 1 - 0).toNat
  have := hS.rows1
  have := hS.rows0
  omega
theorem rngF_bd {f : FieldD} (hS : SoundF f) (ls : List (List Int)) (i : Int) : ∀ k, k ≤ ls.length → (0 ≤ (rngF f ls i k).1 ∧ (rngF f ls i k).1 ≤ 7) ∧ (0 ≤ (rngF f ls i k).2 ∧ (rngF f ls i k).2 ≤ 7) := by
  intro k
  induction k with
  | zero => intro _; have := doneF_bd hS (ls.getD 0 []) i; simp only [rngF, List.take_zero, List.foldl_nil]; omega
  | succ k ih =>
    intro hk
    rw [rngF_succ (by omega)]
    have := ih (by omega)
    have := doneF_bd hS ls[k] i
    unfold wid
    simp only
    omega
def doneL (f : FieldD) : List Rng := (List.range f.weeders.toNat).map fun (i : Nat) => rngF f (truthsF f []) (i : Int) (truthsF f []).length

def DonePost (f : FieldD) (w : World) (e : Ending) (w' : World) : Prop :=
  Below w.heap.size w w' ∧ ((askFErr f true ≠ 0 ∧ e = .returned (.tuple #[.slice none 0 0, iv (askFErr f true)])) ∨ (askFErr f true = 0 ∧ ∃ v, e = .returned (.tuple #[v, iv 0]) ∧ PairsAt w' v (doneL f)))

theorem done7_any (f : FieldD) (tv : Value) (x : List Int) (y0 y1 y2 y3 y4 y5 y6 : Int) (hys : pad7 x = [y0, y1, y2, y3, y4, y5, y6]) (who : Int) (hS : SoundF f) (W : World) :
    Calls Try.prog 43 #[fv f tv, .agg #[iv y0, iv y1, iv y2, iv y3, iv y4, iv y5, iv y6], iv who] W (PV (iv (doneF f x who)) W) := by
  have := done_any f tv (pad7 x) (by rw [hys]; rfl) who W hS.rows0 hS.rows1
  rw [done_pad, hys] at this
  exact this

theorem tWRange : SliceT Try.prog 46 33 (rv (0, 0)) 2 16 := ⟨Try.underlying46, by kernel_rfl, rfl, by omega⟩

theorem ask_sound {f : FieldD} {b : Bool} (h : askFErr f b = 0) : SoundF f ∧ 0 < (truthsF f []).length ∧ b = true := by
  unfold askFErr at h
  split at h
  · omega
  · rename_i h1
    split at h
    · omega
    · rename_i h2
      split at h
      · omega
      · rename_i h3
        refine ⟨soundF_of (by omega), ?_, by simpa using h2⟩
        cases hl : truthsF f [] with
        | nil => rw [hl] at h3; simp at h3
        | cons x l => simp

set_option maxHeartbeats 1600000 in
theorem wDone_any (f : FieldD) (tv : Value) (w : World) (ht : TalliesAt w tv f.tallies) : Calls Try.prog 11 #[fv f tv] w (DonePost f w) := by
  obtain ⟨o, c, rfl⟩ := ht.open
  have HA := Lib.hid (wasked_any f (.slice o f.tallies.length c) 42 #[] true (w.alloc (.cells (fcells f (.slice o f.tallies.length c)) 36)) (ht.alloc _) (enters_of Try.func42 (by kernel_rfl) rfl) (fun W _ => done1_any #[] rfl W))
  clear ht
  go_enter Try.func11, Try.ntmps11
  go_wp2_with fail
  refine HA.out.mono ?_
  rintro e w1 ⟨hb, ⟨hne, rfl⟩ | ⟨h0, wb, v, rfl, hwb, hwk⟩⟩
  · have HB := Lib.hid (show Below w.heap.size w w1 from (by repeat (first | exact Below.refl _ _ | assumption | refine bgo ?_ (by assumption) | refine bgoAlloc ?_ _ | refine bgoDrew ?_ | refine bgoSet ?_ (by simp; omega) _)))
    obtain ⟨q, hq⟩ : ∃ q, askFErr f true = q := ⟨_, rfl⟩
    rw [hq] at hne ⊢
    have HN := Lib.hid (And.intro hq hne)
    have hneb : (q == 0) = false := by simpa using hne
    clear hb hne hq
    go_wp2_with fail
    go_returns
    exact ⟨HB.out, .inl ⟨by rw [HN.out.1]; exact HN.out.2, by rw [HN.out.1]; simp⟩⟩
  have HB := Lib.hid (show Below w.heap.size w w1 from (by repeat (first | exact Below.refl _ _ | assumption | refine bgo ?_ (by assumption) | refine bgoAlloc ?_ _ | refine bgoDrew ?_ | refine bgoSet ?_ (by simp; omega) _)))
  clear hb
  obtain ⟨hS, hpos, _⟩ := ask_sound h0
  have hlen7 : ∀ x ∈ truthsF f [], x.length ≤ 7 := fun x hx => by have := truthsF_len hx; have := hS.rows1; omega
  have hcnt := truthsF_count hS []
  obtain ⟨vo, vc, rfl⟩ := hwk.truth.open
  have HS := Lib.hid hS
  have HWK := Lib.hid hwk
  obtain ⟨dl, hdle⟩ : ∃ dl, doneL f = dl := ⟨_, rfl⟩
  have HDE := Lib.hid hdle
  have HDL : Hid (dl = (List.range f.weeders.toNat).map fun (i : Nat) => rngF f (truthsF f []) (i : Int) (truthsF f []).length) := Lib.hid (by rw [← hdle]; rfl)
  clear hdle
  have hw3 := hS.weed1
  have hw0 := hS.weed0
  have H0 := Lib.hid h0
  generalize truthsF f [] = ls at *
  obtain ⟨n, hn⟩ : ∃ n : Nat, f.weeders = n := ⟨f.weeders.toNat, by omega⟩
  have HN := Lib.hid hn
  obtain ⟨c1, f1, l1⟩ := cells_of_block hwk.cells
  have hn3 : n ≤ 3 := by omega
  rw [hn, Int.toNat_natCast] at HDL
  clear hwk hS h0 hn
  go_wp2_with fail
  rw [HN.out]
  have HL := Lib.hid (And.intro hpos (And.intro hlen7 hcnt))
  clear hpos hlen7 hcnt hw3 hw0
  go_loopw [6, 25] (fun ov u wr => ∃ i : Nat, i ≤ n ∧ u = .int .i64 i ∧ (∃ oo oc, ov = .slice oo i oc ∧ wr.ownsRow w1.heap.size 33 2 (.slice oo i oc) i (pairCells (dl.take i))) ∧ Below w1.heap.size w1 wr) (fun _ u _ => n - (intOf u).toNat)
  case atStart => exact ⟨0, Nat.zero_le _, rfl, ⟨none, 0, rfl, ⟨rfl, .inl ⟨rfl, rfl⟩⟩⟩, Below.refl _ _⟩
  case round =>
    obtain ⟨i, hi, rfl, ⟨oo, oc, rfl, how⟩, hB⟩ := hrel
    by_cases hlt : i < n
    · have hwr := HWK.out.below hB (Nat.le_refl _)
      obtain ⟨d1, g1, m1⟩ := cells_of_block hwr.cells
      obtain ⟨b, off, y0, y1, y2, y3, y4, y5, y6, hvv, hb, hys, r0, r1, r2, r3, r4, r5, r6⟩ := ans_cell hwr.truth HL.out.2.1 HL.out.1
      subst hvv
      have hD := done7_any f (.slice o f.tallies.length c) _ y0 y1 y2 y3 y4 y5 y6 hys (i : Int) HS.out
      have hr0 : rngF f ls (i : Int) 0 = (doneF f (ls[0]'HL.out.1) i, doneF f (ls[0]'HL.out.1) i) := by
        unfold rngF
        rw [show ls.getD 0 [] = ls[0]'HL.out.1 from by simp [List.getD, HL.out.1]]
        rfl
      have hdb := doneF_bd HS.out (ls[0]'HL.out.1) (i : Int)
      generalize doneF f (ls[0]'HL.out.1) (i : Int) = d at *
      have HD := Lib.hid hD
      have HR0 := Lib.hid hr0
      have HB' := Lib.hid hB
      have HOW := Lib.hid how
      clear hys hD hr0 hB how
      simp only [Nat.zero_mul, Nat.add_zero] at r0 r1 r2 r3 r4 r5 r6
      have hpos0 : 0 < ls.length := HL.out.1
      have hl25 : ls.length ≤ 2500 := HL.out.2.2
      go_upto_region 8 with (fail)
      refine wp_region_rg 12 [] none [(11, Spec.val (iv d))] (by kernel_rfl) (by kernel_rfl) ?_
      simp only [List.take_succ_cons, List.take_zero, List.drop_succ_cons, List.drop_zero]
      repeat (first | (refine tree_det (by rfl) _ (by rfl) (fun W hW => by go_simp; (try simp (disch := omega) only [IntWalk.i64_in]); try rfl) ?_; simp only [Act.put, List.setIfInBounds_toArray, List.set_cons_succ, List.set_cons_zero]) | (refine tree_skip (by rfl) (by rfl) ?_; simp only [Act.put, List.setIfInBounds_toArray, List.set_cons_succ, List.set_cons_zero]))
      refine tree_val _ (by rfl) (by rfl) 43 _ (fun W hW => by go_simp; try rfl) (fun W hE hF => by exact HD.out W) ?_
      simp only [Act.put, List.setIfInBounds_toArray, List.set_cons_succ, List.set_cons_zero]
      intro W hE hF
      obtain ⟨hc, hf⟩ := bcell hE.below
      have hzE := hE.size
      (try simp only [World.size_alloc] at hzE)
      have HBW := Lib.hid (show Below w1.heap.size w1 W from bgo HB'.out hE.below)
      have hoW := owns_ext (Ms := []) HOW.out hE (by simp)
      have hwW := HWK.out.below HBW.out (Nat.le_refl _)
      have HOW2 := Lib.hid hoW
      clear hE hF hc hf r0 r1 r2 r3 r4 r5 r6 hb d1 g1 m1 hoW hzE
      obtain ⟨d1, g1, m1⟩ := cells_of_block hwW.cells
      have hsW := HBW.out.size
      go_upto_region 10 with (fail)
      refine gworld fun W9 hW9 => ?_
      have hB9 : Below W.heap.size W W9 := by rw [hW9]; exact (by repeat (first | exact Below.refl _ _ | assumption | refine bgo ?_ (by assumption) | refine bgoAlloc ?_ _ | refine bgoDrew ?_ | refine bgoSet ?_ (by simp; omega) _))
      have hk9 : W9.heap[W.heap.size]? = some (.cells #[iv d, iv d] 33 (0, 0)) := by rw [hW9]; exact heap_new0 _ _
      have hb9 := bgo HBW.out hB9
      have ho9 := owns_ext (Ms := []) HOW2.out (Ext.of_below hB9) (by simp)
      have hg9 : ∀ g, (Value.slice oo i oc).ownBlock = some g → g ≠ W.heap.size := fun g hg => by have := (owns_ge HOW2.out g hg).2; omega
      have hw9 := HWK.out.below hb9 (Nat.le_refl _)
      clear hW9 d1 g1 m1 hwW
      obtain ⟨d1, g1, m1⟩ := cells_of_block hw9.cells
      have HG9 := Lib.hid hg9
      have HH9 := Lib.hid (And.intro hb9 (And.intro hk9 (And.intro ho9 hw9)))
      have hbW : w1.heap.size ≤ W.heap.size := hsW
      obtain ⟨b9, hb9d⟩ : ∃ b9, W.heap.size = b9 := ⟨_, rfl⟩
      rw [hb9d] at HG9 HH9 hbW
      rw [hb9d]
      clear hg9 hb9 hk9 ho9 hw9 hB9 hsW HBW HOW2 hb9d
      go_wp2_with fail
      go_loopw [48] (fun u wq => ∃ k : Nat, k ≤ ls.length ∧ u = .int .i64 k ∧ wq.heap[b9]? = some (.cells #[iv (rngF f ls i k).1, iv (rngF f ls i k).2] 33 (0, 0)) ∧ wq.ownsRow w1.heap.size 33 2 (.slice oo i oc) i (pairCells (dl.take i)) ∧ Below w1.heap.size w1 wq) (fun u _ => ls.length - (intOf u).toNat)
      case atStart => exact ⟨0, Nat.zero_le _, rfl, by rw [HR0.out]; exact HH9.out.2.1, HH9.out.2.2.1, HH9.out.1⟩
      case round =>
        obtain ⟨k, hk, rfl, hcell, how, hB⟩ := hrel
        by_cases hlk : k < ls.length
        · have hwr := HWK.out.below hB (Nat.le_refl _)
          obtain ⟨q1, q2, q3⟩ := cells_of_block hwr.cells
          obtain ⟨e1, e2, e3⟩ := cells_of_block hcell
          obtain ⟨b', off', z0, z1, z2, z3, z4, z5, z6, hvv, hb', hzs, s0, s1, s2, s3, s4, s5, s6⟩ := ans_cell hwr.truth HL.out.2.1 hlk
          cases hvv
          have hD2 := done7_any f (.slice o f.tallies.length c) _ z0 z1 z2 z3 z4 z5 z6 hzs (i : Int) HS.out
          have hsu := rngF_succ (f := f) (i := (i : Int)) hlk
          have hdb2 := doneF_bd HS.out ls[k] (i : Int)
          have hrb := rngF_bd HS.out ls (i : Int) k hk
          generalize doneF f ls[k] (i : Int) = d2 at *
          generalize hrk : rngF f ls (i : Int) k = r at *
          have HD2 := Lib.hid hD2
          have HSU := Lib.hid hsu
          have HQ := Lib.hid (And.intro hcell (And.intro how hB))
          clear hzs hD2 hsu hcell how hB hwr d1 g1 m1
          have hlkI : (k : Int) < ls.length := by omega
          go_upto_region 13 with (fail)
          refine gworld fun W5 hW5 => ?_
          have hB5 : Below wr.heap.size wr W5 := by rw [hW5]; exact (by repeat (first | exact Below.refl _ _ | assumption | refine bgo ?_ (by assumption) | refine bgoAlloc ?_ _ | refine bgoDrew ?_ | refine bgoSet ?_ (by simp; omega) _))
          have hk5 : W5.heap[wr.heap.size]? = some (.cells #[iv z0, iv z1, iv z2, iv z3, iv z4, iv z5, iv z6] 96 (0, 0)) := by rw [hW5]; exact heap_new0 _ _
          have hc5 := (hB5.block _ e3).trans HQ.out.1
          have hw5 := HWK.out.below (bgo HQ.out.2.2 hB5) (Nat.le_refl _)
          have HBB := Lib.hid (And.intro (bgo HQ.out.2.2 hB5) (And.intro (owns_ext (Ms := []) HQ.out.2.1 (Ext.of_below hB5) (by simp)) hc5))
          clear hW5 hB5 q1 q2 q3 e1 e2 s0 s1 s2 s3 s4 s5 s6 hb'
          obtain ⟨q1, q2, q3⟩ := cells_of_block hw5.cells
          obtain ⟨e1, e2, e4⟩ := cells_of_block hc5
          obtain ⟨p1, p2, p3⟩ := cells_of_block hk5
          clear hw5 hc5 hk5
          refine wp_region_rg 9 [] none [(7, Spec.val (iv d2)), (8, Spec.val (rv (wid r d2)))] (by kernel_rfl) (by kernel_rfl) ?_
          simp only [List.take_succ_cons, List.take_zero, List.drop_succ_cons, List.drop_zero]
          repeat (first | (refine tree_det (by rfl) _ (by rfl) (fun W hW => by go_simp; (try simp (disch := omega) only [IntWalk.i64_in]); try rfl) ?_; simp only [Act.put, List.setIfInBounds_toArray, List.set_cons_succ, List.set_cons_zero]) | (refine tree_skip (by rfl) (by rfl) ?_; simp only [Act.put, List.setIfInBounds_toArray, List.set_cons_succ, List.set_cons_zero]))
          refine tree_val _ (by rfl) (by rfl) 43 _ (fun W hW => by go_simp; try rfl) (fun W hE hF => by exact HD2.out W) ?_
          simp only [Act.put, List.setIfInBounds_toArray, List.set_cons_succ, List.set_cons_zero]
          refine tree_val _ (by rfl) (by rfl) 44 _ (fun W hW => by go_simp; try rfl) (fun W hE hF => by exact wwider_any r d2 W) ?_
          simp only [Act.put, List.setIfInBounds_toArray, List.set_cons_succ, List.set_cons_zero]
          intro W hE hF
          obtain ⟨hc, hf⟩ := bcell hE.below
          have hzE := hE.size
          (try simp only [World.size_alloc] at hzE)
          have HE := Lib.hid hE
          clear hF hzE
          go_wp2_with fail
          go_roundw
          case rel =>
            refine ⟨k + 1, by omega, by go_num, ?_, ?_, ?_⟩
            · rw [HSU.out]
              exact set_block (set_block ((HE.out.block _ e4 (by simp)).trans HBB.out.2.2) _) _
            · have h1 := owns_ext (Ms := []) HBB.out.2.1 HE.out (by simp)
              have h2 := owns_keep (w' := W.setCell ⟨b9, 0, none⟩ (iv (wid r d2).1)) h1 fun g hg => Below.heap_setCell _ _ _ _ (HG9.out g hg)
              exact owns_keep h2 fun g hg => Below.heap_setCell _ _ _ _ (HG9.out g hg)
            · exact bgoSet (bgoSet (bgo HBB.out.1 HE.out.below) hbW _) hbW _
          case measure => simp [intOf]; omega
        · have hkl : k = ls.length := by omega
          subst hkl
          have hdl : dl.take (i + 1) = dl.take i ++ [rngF f ls i ls.length] := by
            rw [List.take_add_one]
            congr 1
            rw [HDL.out]
            simp [hlt]
          have HDL1 := Lib.hid hdl
          have hrb := rngF_bd HS.out ls (i : Int) _ (Nat.le_refl _)
          generalize rngF f ls (i : Int) ls.length = r at *
          obtain ⟨e1, e2, e3⟩ := cells_of_block hcell
          have HQ := Lib.hid (And.intro how hB)
          clear hcell how hB hdl d1 g1 m1
          go_upto_region 15 with (fail)
          go_wp2_with (at_builtin; refine wpList_append rfl _ _ tWRange rfl w1.heap.size (.slice oo i oc) i (pairCells (dl.take i)) rfl ?_ (.slice (some ⟨wr.heap.size, 0, none⟩) 1 1) 1 [iv r.1, iv r.2] rfl ?_ (by simp [Value.oneCell']) (by omega) (by omega) (by have := HQ.out.2.size; simp; omega) ?_)
          · exact owns_ext (Ms := []) HQ.out.1 (Ext.of_below ((Below.refl _ _).alloc (Nat.le_refl _) _)) (by simp)
          · exact SlAt.of_block 2 1 (heap_new0 _ _) rfl (by decide)
          · intro v' W7 hown hgr
            obtain ⟨o7, c7, rfl⟩ := owns_slice hown
            have HO7 := Lib.hid hown
            have HG7 := Lib.hid hgr
            clear hown hgr
            go_wp2_with fail
            go_roundw
            case rel =>
              refine ⟨i + 1, by omega, by go_num, ⟨o7, c7, rfl, ?_⟩, ?_⟩
              · rw [HDL1.out, pairCells_snoc]
                exact HO7.out
              · refine Below.grown (bgoAlloc HQ.out.2 _) HG7.out (by have := HQ.out.2.size; simp; omega) (fun k e => (owns_ge HQ.out.1 k e).1)
            case measure => simp [intOf]; omega
    · have hin : i = n := by omega
      subst hin
      have HOW := Lib.hid (And.intro how hB)
      clear how hB
      go_wp2_with fail
      go_returns
      refine ⟨bgo HB.out HOW.out.2, .inr ⟨H0.out, _, by simp; rfl, ?_⟩⟩
      have h1 := SlAt.of_owns HOW.out.1
      have hdl : dl.length = i := by rw [HDL.out]; simp
      rw [List.take_of_length_le (by omega)] at h1
      rw [HDE.out]
      show SlAt 2 _ _ dl.length (pairCells dl)
      rw [hdl]
      exact h1

end Go.Proofs.Ytdjgikcnmokjkaa

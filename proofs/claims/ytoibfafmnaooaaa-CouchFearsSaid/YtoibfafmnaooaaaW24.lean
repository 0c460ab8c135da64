/-
  Contracts of package couch, twenty-third part: Fear.
-/
import Derived.WalkKit
import Derived.WalkLawsBesides
import Derived.WalkSpells
import Derived.Outline
import Derived.Handy
import Derived.KernelRfl
import Derived.Lib.Hide
import Derived.Test.YtoibfafmnaooaaaW23
namespace Go.Proofs.Ytoibfafmnaooaaa
open Go.RowKit Go.RG Go.SL Go.Shelf Cou
set_option maxHeartbeats 400000
set_option maxRecDepth 10000

theorem some_any (h : HeapD) (a b c : Value) (fid : Nat) (p : Int → Bool) (r : Rng) (w : World) (eg : ∀ args w, (callFunc fid args).run Try.prog w = .ok (.enter fid args) w)
    (hof : ∀ n W, Calls Try.prog fid #[hv h a b c, iv n] W (PV (.bool (p n)) W)) :
    Calls Try.prog 68 #[.agg #[.func (.func fid) #[] #[]], hv h a b c, rv r] w (PV (.bool (p r.1 || p r.2)) w) := by
  have HF1 := Lib.hid (fun W => hof r.1 W)
  have HF2 := Lib.hid (fun W => hof r.2 W)
  clear hof
  generalize p r.1 = q1 at *
  generalize p r.2 = q2 at *
  go_enter Try.func68, Try.ntmps68
  go_wp2_with fail
  refine (HF1.out _).mono ?_
  rintro e w1 ⟨rfl, hb⟩
  obtain ⟨hc, hf⟩ := bcell hb
  have hz0 := hb.size
  simp only [World.size_alloc] at hz0
  have z0 : w.heap.size < w1.heap.size := by omega
  have z1 : w.heap.size + 1 < w1.heap.size := by omega
  have z2 : w.heap.size + 1 + 1 < w1.heap.size := by omega
  have HB := Lib.hid (show Below w.heap.size w w1 from (by repeat (first | exact Below.refl _ _ | assumption | refine bgo ?_ (by assumption) | refine bgoAlloc ?_ _ | refine bgoDrew ?_ | refine bgoSet ?_ (by simp; omega) _)))
  clear hb
  cases q1
  · go_wp2_with fail
    refine (HF2.out _).mono ?_
    rintro e w2 ⟨rfl, hb⟩
    have HB2 := Lib.hid hb
    clear hb hc hf
    go_wp2_with fail
    go_returns
    exact ⟨by simp, bgo HB.out HB2.out⟩
  · go_wp2_with fail
    go_returns
    exact ⟨by simp, HB.out⟩

/-! ### Fear -/
def fearAt (h : HeapD) (r : Rng) : Bool := lostB h r.1 || lostB h r.2
def fearD (h : HeapD) (r : Rng) (i : Nat) : Int × Bool × Bool := ((i : Int), decide (h.burn < r.1) || decide (h.burn < r.2), decide (r.1 < h.die) || decide (r.2 < h.die))
def fearFrom (h : HeapD) : List Rng → Nat → Option (Int × Bool × Bool)
  | [], _ => none
  | r :: R, i => if fearAt h r then some (fearD h r i) else fearFrom h R (i + 1)
def fearErr (h : HeapD) (turns : List Int) : Int := if askErr h turns ≠ 0 then askErr h turns else if (fearFrom h (boundsOut h turns) 0).isSome then 0 else 7
def fearOut (h : HeapD) (turns : List Int) : Int × Bool × Bool := (fearFrom h (boundsOut h turns) 0).getD (0, false, false)
abbrev dv (d : Int × Bool × Bool) : Value := .agg #[iv d.1, .bool d.2.1, .bool d.2.2]

theorem fearFrom_at (h : HeapD) : ∀ (R : List Rng) (k i : Nat) (hk : k < R.length), (∀ j (hj : j < k), fearAt h (R[j]'(by omega)) = false) → fearAt h R[k] = true → fearFrom h R i = some (fearD h R[k] (i + k)) := by
  intro R
  induction R with
  | nil => intro k i hk; simp at hk
  | cons r R ih =>
    intro k i hk h1 h2
    unfold fearFrom
    cases k with
    | zero =>
      have h2' : fearAt h r = true := h2
      rw [if_pos h2']; rfl
    | succ k =>
      have h0 : fearAt h r = false := h1 0 (by omega)
      rw [if_neg (by rw [h0]; simp), ih k (i + 1) (by simpa using hk) (fun j hj => h1 (j + 1) (by omega)) h2]
      rw [show i + 1 + k = i + (k + 1) by omega]
      rfl
theorem fearFrom_no (h : HeapD) : ∀ (R : List Rng) (i : Nat), (∀ j (hj : j < R.length), fearAt h R[j] = false) → fearFrom h R i = none := by
  intro R
  induction R with
  | nil => intro i _; rfl
  | cons r R ih =>
    intro i h1
    unfold fearFrom
    have h0 : fearAt h r = false := h1 0 (by simp)
    rw [if_neg (by rw [h0]; simp)]
    exact ih (i + 1) (fun j hj => h1 (j + 1) (by simpa using hj))

theorem fear_results (tmps : Array Value) (W : World) (g : Nat) (cs : Array Value) (x : Value) (hp : tmps.getD 4 undef = .pointer (some ⟨g, 0, none⟩)) (hx : tmps.getD 5 undef = x) {t : TypeId} (hg : W.heap[g]? = some (.cells cs t (0, 0))) (hi : cs.size = 3) :
    (results Try.f20 tmps).run Try.prog W = .ok (.tuple #[.agg cs, x]) W := by
  rw [results_cell_tmp Try.results20, hp, hx]
  have := run_loadVar_row (P := Try.prog) W g t 32 cs (0, 0) _ hg Try.underlying32 rfl (by rw [hi]; kernel_rfl)
  simp [asAddr, this]

theorem set_three {W : World} {g : Nat} {t : TypeId} {x y z : Value} (h : W.heap[g]? = some (.cells #[x, y, z] t (0, 0))) (a b c : Value) :
    (((W.setCell ⟨g, 0, none⟩ a).setCell ⟨g, 1, none⟩ b).setCell ⟨g, 2, none⟩ c).heap[g]? = some (.cells #[a, b, c] t (0, 0)) := set_block (set_block (set_block h a) b) c

theorem Fear_any (h : HeapD) (wv tv xv' trv : Value) (turns : List Int) (w : World) (hw : PairsAt w wv h.wet) (ht : IntsAt w tv h.turns) (hx : TriplesAt w xv' h.readings) (htr : IntsAt w trv turns) :
    Calls Try.prog 20 #[hv h wv tv xv', trv] w (fun e w' => e = .returned (.tuple #[dv (fearOut h turns), iv (fearErr h turns)]) ∧ Below w.heap.size w w') := by
  obtain ⟨ow, cw, rfl⟩ := hw.open
  obtain ⟨ot, ct, rfl⟩ := ht.open
  obtain ⟨ox, cx, rfl⟩ := hx.open
  have HW := Lib.hid hw
  have HT := Lib.hid ht
  have HX := Lib.hid hx
  clear hw ht hx
  obtain ⟨oq, cq, rfl⟩ := htr.open
  have HQ := Lib.hid htr
  clear htr
  obtain ⟨E, hE⟩ : ∃ E, askErr h turns = E := ⟨_, rfl⟩
  obtain ⟨V, hV⟩ : ∃ V, fearErr h turns = V := ⟨_, rfl⟩
  obtain ⟨D, hD⟩ : ∃ D, fearOut h turns = D := ⟨_, rfl⟩
  rw [hD, hV]
  have HE := Lib.hid hE
  have HV := Lib.hid hV
  have HD := Lib.hid hD
  clear hE hV hD
  go_enter Try.func20, Try.ntmps20
  go_wp2_with fail
  refine (asked_any h _ _ _ _ turns _ ((HW.out.alloc _).alloc _) ((HT.out.alloc _).alloc _) ((HX.out.alloc _).alloc _) ((HQ.out.alloc _).alloc _)).mono ?_
  rintro e w1 ⟨hb, ⟨hne, rfl⟩ | ⟨h0, wb, mb, rfl, hwb, hmb, hwk⟩⟩
  · rw [HE.out] at hne ⊢
    have hne' : askErr h turns ≠ 0 := by rw [HE.out]; exact hne
    have hv0 : V = E := by rw [← HV.out]; unfold fearErr; rw [if_pos hne']; exact HE.out
    have hd0 : D = (0, false, false) := by
      rw [← HD.out]
      unfold fearOut boundsOut
      rw [if_neg hne']
      rfl
    subst hv0
    subst hd0
    have hblk : w1.heap[w.heap.size + 1]? = some (.cells #[iv 0, .bool false, .bool false] 32 (0, 0)) := (hb.block _ (by simp)).trans (heap_new1 _ _ _)
    have hg : ∀ i, w1.cell? ⟨w.heap.size + 1, i, none⟩ = (#[iv 0, .bool false, .bool false] : Array Value)[i]? := fun i => by
      simp only [World.cell?, hblk]; rfl
    have hfr := fun k => frozen_of_block hblk k
    have hs1 := (Array.getElem?_eq_some_iff.1 hblk).1
    have HB := Lib.hid hb
    clear hb hne'
    go_wp2_with fail
    refine bodyPost_ret (v := .tuple #[dv ((0, false, false) : Int × Bool × Bool), iv V]) (fear_results _ _ (w.heap.size + 1) #[iv (((0, false, false) : Int × Bool × Bool)).1, .bool (((0, false, false) : Int × Bool × Bool)).2.1, .bool (((0, false, false) : Int × Bool × Bool)).2.2] (iv V) rfl rfl (set_three hblk _ _ _) rfl) rfl ?_
    exact ⟨rfl, bgoSet (bgoSet (bgoSet (bgo (bgoAlloc (bgoAlloc (Below.refl _ _) _) _) HB.out) (by show w.heap.size ≤ w.heap.size + 1; omega) _) (by show w.heap.size ≤ w.heap.size + 1; omega) _) (by show w.heap.size ≤ w.heap.size + 1; omega) _⟩
  · have hE0 : E = 0 := by rw [← HE.out]; exact h0
    subst hE0
    have hS := ask_sound h0
    have HBD := Lib.hid (bounds_any h hS _ _ _ _ turns wb mb w1 hwk (((HW.out.alloc _).alloc _).below hb (Nat.le_refl _)) (((HT.out.alloc _).alloc _).below hb (Nat.le_refl _)) (((HX.out.alloc _).alloc _).below hb (Nat.le_refl _)) (((HQ.out.alloc _).alloc _).below hb (Nat.le_refl _)))
    have hmb' : w.heap.size + 2 ≤ mb := by simpa using hmb
    have hbo : boundsOut h turns = boundsL (h.last + 1).toNat (everyL h turns) := by unfold boundsOut; rw [if_pos h0]
    rw [← hbo] at HBD
    have hVV : V = if (fearFrom h (boundsOut h turns) 0).isSome then 0 else 7 := by rw [← HV.out]; unfold fearErr; rw [if_neg (by rw [h0]; simp)]
    have hDD : D = (fearFrom h (boundsOut h turns) 0).getD (0, false, false) := HD.out.symm
    have hb0 : w1.heap[w.heap.size]? = some (.cells #[.int .i64 h.last, .int .i64 h.size, .int .i64 h.cool, .int .i64 h.die, .int .i64 h.burn, .int .i64 h.start.1, .int .i64 h.start.2, .slice ow h.wet.length cw, .slice ot h.turns.length ct, .slice ox h.readings.length cx] 40 (0, 0)) := (hb.block _ (by simp; omega)).trans ((Below.heap_alloc _ _ _ (by simp)).trans (heap_new0 _ _))
    have hb1 : w1.heap[w.heap.size + 1]? = some (.cells #[iv 0, .bool false, .bool false] 32 (0, 0)) := (hb.block _ (by simp)).trans (heap_new1 _ _ _)
    generalize boundsOut h turns = R at *
    have HVV := Lib.hid hVV
    have HDD := Lib.hid hDD
    have HBB := Lib.hid (And.intro hb0 hb1)
    have HB := Lib.hid hb
    clear hb hwk h0 hS hVV hDD hb0 hb1 hbo
    go_wp2_with fail
    refine HBD.out.mono ?_
    rintro e w2 ⟨v, rfl, hown, hcc, hE2⟩
    have HB2 := Lib.hid (below_of_ext (bgo (bgoAlloc (bgoAlloc (Below.refl _ _) _) _) HB.out) hE2 (by omega))
    have hsl : PairsAt w2 v R := SlAt.of_owns hown
    have hb0 := (hE2.block w.heap.size (Array.getElem?_eq_some_iff.1 HBB.out.1).1 (by simp; omega)).trans HBB.out.1
    have hb1 := (hE2.block (w.heap.size + 1) (Array.getElem?_eq_some_iff.1 HBB.out.2).1 (by simp; omega)).trans HBB.out.2
    have hlen := hsl.len
    obtain ⟨vo, vc, rfl⟩ := owns_slice hown
    have HSL := Lib.hid hsl
    have HBB2 := Lib.hid (And.intro hb0 hb1)
    clear hown hcc hE2 hsl hb0 hb1
    go_wp2_with fail
    go_loopw [24] (fun u wr => ∃ k : Nat, k ≤ R.length ∧ u = .int .i64 k ∧ Below w2.heap.size w2 wr ∧ ∀ j, j < k → fearAt h (R.getD j (0, 0)) = false) (fun u _ => R.length - (intOf u).toNat)
    case atStart => exact ⟨0, Nat.zero_le _, rfl, Below.refl _ _, fun j hj => by omega⟩
    case round =>
      obtain ⟨k, hk, rfl, hB, hno⟩ := hrel
      have hb0 := (hB.block _ (Array.getElem?_eq_some_iff.1 HBB2.out.1).1).trans HBB2.out.1
      have hb1 := (hB.block _ (Array.getElem?_eq_some_iff.1 HBB2.out.2).1).trans HBB2.out.2
      have s0 := (Array.getElem?_eq_some_iff.1 hb0).1
      have s1 := (Array.getElem?_eq_some_iff.1 hb1).1
      have hc0 : ∀ i, wr.cell? ⟨w.heap.size, i, none⟩ = (#[.int .i64 h.last, .int .i64 h.size, .int .i64 h.cool, .int .i64 h.die, .int .i64 h.burn, .int .i64 h.start.1, .int .i64 h.start.2, .slice ow h.wet.length cw, .slice ot h.turns.length ct, .slice ox h.readings.length cx] : Array Value)[i]? := fun i => by
        simp only [World.cell?, hb0]; rfl
      have HNO := Lib.hid hno
      have HBW := Lib.hid hB
      by_cases hlt : k < R.length
      · have hsl := HSL.out.below hB (Nat.le_refl _)
        obtain ⟨b, off, rfl, hb, d0, d1⟩ := PairsAt.cell hsl hlt
        have hgd : R.getD k (0, 0) = R[k] := by simp [List.getD, hlt]
        have hltI : (k : Int) < R.length := by omega
        have hat : ∀ j (hj : j < k), fearAt h (R[j]'(by omega)) = false := fun j hj => by have := hno j hj; simpa [List.getD, show j < R.length by omega] using this
        have HAT := Lib.hid (fun (hf : fearAt h R[k] = true) => fearFrom_at h R k 0 hlt hat hf)
        generalize R[k] = r at *
        have HGD := Lib.hid hgd
        have HB1 := Lib.hid hb1
        clear hno hB hsl hgd hat hb0 hb1
        have h67 := fun W => some_any h (.slice ow h.wet.length cw) (.slice ot h.turns.length ct) (.slice ox h.readings.length cx) 67 (lostB h) r W (enters_of Try.func67 (by kernel_rfl) rfl) (fun n W => lost_any h _ _ _ n W)
        have H67 := Lib.hid h67
        clear h67
        obtain ⟨q, hq⟩ : ∃ q, fearAt h r = q := ⟨_, rfl⟩
        have hq' : (lostB h r.1 || lostB h r.2) = q := hq
        rw [hq'] at H67
        have HQQ := Lib.hid hq
        clear hq hq'
        go_wp2_with fail
        refine (H67.out _).mono ?_
        rintro e w3 ⟨rfl, hb3⟩
        have z9 : wr.heap.size < w3.heap.size := by have := hb3.size; simp at this; omega
        have hbr : w3.heap[wr.heap.size]? = some (.cells #[iv r.1, iv r.2] 36 (0, 0)) := (hb3.block _ (by simp)).trans (heap_new0 _ _)
        have hc9 : ∀ i, w3.cell? ⟨wr.heap.size, i, none⟩ = (#[iv r.1, iv r.2] : Array Value)[i]? := fun i => by
          simp only [World.cell?, hbr]; rfl
        have hB3 : Below wr.heap.size wr w3 := bgo (bgoAlloc (Below.refl _ _) _) hb3
        have hc3 : ∀ i, w3.cell? ⟨w.heap.size, i, none⟩ = (#[.int .i64 h.last, .int .i64 h.size, .int .i64 h.cool, .int .i64 h.die, .int .i64 h.burn, .int .i64 h.start.1, .int .i64 h.start.2, .slice ow h.wet.length cw, .slice ot h.turns.length ct, .slice ox h.readings.length cx] : Array Value)[i]? := fun i => (hB3.cell (p := ⟨w.heap.size, i, none⟩) s0).trans (hc0 i)
        have hb13 := (hB3.block _ s1).trans HB1.out
        have s03 : w.heap.size < w3.heap.size := by omega
        have s13 := (Array.getElem?_eq_some_iff.1 hb13).1
        have HB3 := Lib.hid hB3
        have HB13 := Lib.hid hb13
        clear hb3 hbr hB3 hb13 hc0
        cases q
        · go_wp2_with fail
          go_roundw
          case rel => exact ⟨k + 1, by omega, by go_num, bgo HBW.out HB3.out, fun j hj => by
            by_cases e : j = k
            · subst e; rw [HGD.out]; exact HQQ.out
            · exact HNO.out j (by omega)⟩
          case measure => simp [intOf]; omega
        · have hr := HAT.out HQQ.out
          have hV0 : V = 0 := by rw [HVV.out, hr]; rfl
          have hD0 : D = fearD h r k := by rw [HDD.out, hr]; simp
          subst hV0
          subst hD0
          go_wp2_with fail
          refine wp_region_rg 10 [] none [(4, Spec.val (.bool (fearD h r k).2.1)), (8, Spec.val (.bool (fearD h r k).2.2))] (by kernel_rfl) (by kernel_rfl) ?_
          simp only [List.take_succ_cons, List.take_zero, List.drop_succ_cons, List.drop_zero]
          repeat (refine tree_det (by rfl) _ (by rfl) (fun W hW => by go_simp; (try simp (disch := omega) only [IntWalk.i64_in, Int.tdiv_eq_ediv_of_nonneg]); try rfl) ?_; simp only [Act.put, List.setIfInBounds_toArray, List.set_cons_succ, List.set_cons_zero])
          refine tree_val _ (by rfl) (by rfl) 68 _ (fun W hW => by go_simp; try rfl) (fun W hE hF => by exact some_any h _ _ _ 69 (fun n => decide (h.burn < n)) r W (enters_of Try.func69 (by kernel_rfl) rfl) (fun n W => burns_any h _ _ _ n W)) ?_
          simp only [Act.put, List.setIfInBounds_toArray, List.set_cons_succ, List.set_cons_zero]
          repeat (refine tree_det (by rfl) _ (by rfl) (fun W hW => by go_simp; (try simp (disch := omega) only [IntWalk.i64_in, Int.tdiv_eq_ediv_of_nonneg]); try rfl) ?_; simp only [Act.put, List.setIfInBounds_toArray, List.set_cons_succ, List.set_cons_zero])
          refine tree_val _ (by rfl) (by rfl) 68 _ (fun W hW => by go_simp; try rfl) (fun W hE hF => by exact some_any h _ _ _ 70 (fun n => decide (n < h.die)) r W (enters_of Try.func70 (by kernel_rfl) rfl) (fun n W => dies_any h _ _ _ n W)) ?_
          simp only [Act.put, List.setIfInBounds_toArray, List.set_cons_succ, List.set_cons_zero]
          repeat (refine tree_det (by rfl) _ (by rfl) (fun W hW => by go_simp; (try simp (disch := omega) only [IntWalk.i64_in, Int.tdiv_eq_ediv_of_nonneg]); try rfl) ?_; simp only [Act.put, List.setIfInBounds_toArray, List.set_cons_succ, List.set_cons_zero])
          intro W4 hE4 hF4
          have hE : Ext [] w3 W4 := hE4
          have hb14 := (hE.block _ s13 (by simp)).trans HB13.out
          have hg : ∀ i, W4.cell? ⟨w.heap.size + 1, i, none⟩ = (#[iv 0, .bool false, .bool false] : Array Value)[i]? := fun i => by
            simp only [World.cell?, hb14]; rfl
          have hfr := fun k => frozen_of_block hb14 k
          have s14 := (Array.getElem?_eq_some_iff.1 hb14).1
          have HE4 := Lib.hid hE
          have HB14 := Lib.hid hb14
          clear hE hE4 hF4 hb14 hc3 hc9
          go_wp2_with fail
          refine bodyPost_ret (v := .tuple #[dv (fearD h r k), iv 0]) (fear_results _ _ (w.heap.size + 1) #[iv ((fearD h r k)).1, .bool ((fearD h r k)).2.1, .bool ((fearD h r k)).2.2] (iv 0) rfl rfl (set_three HB14.out _ _ _) rfl) rfl ?_
          exact ⟨rfl, bgoSet (bgoSet (bgoSet (bgo (bgo (bgo HB2.out HBW.out) HB3.out) HE4.out.below) (by show w.heap.size ≤ w.heap.size + 1; omega) _) (by show w.heap.size ≤ w.heap.size + 1; omega) _) (by show w.heap.size ≤ w.heap.size + 1; omega) _⟩
      · have hkl : k = R.length := by omega
        have hno' : fearFrom h R 0 = none := fearFrom_no h R 0 (fun j hj => by have := hno j (by omega); simpa [List.getD, hj] using this)
        have hV0 : V = 7 := by rw [HVV.out, hno']; rfl
        have hD0 : D = (0, false, false) := by rw [HDD.out, hno']; rfl
        subst hV0
        subst hD0
        have hg : ∀ i, wr.cell? ⟨w.heap.size + 1, i, none⟩ = (#[iv 0, .bool false, .bool false] : Array Value)[i]? := fun i => by
          simp only [World.cell?, hb1]; rfl
        have hfr := fun k => frozen_of_block hb1 k
        have HB14 := Lib.hid hb1
        clear hno hno' hb1 hb0 hc0
        go_wp2_with fail
        refine bodyPost_ret (v := .tuple #[dv ((0, false, false) : Int × Bool × Bool), iv 7]) (fear_results _ _ (w.heap.size + 1) #[iv (((0, false, false) : Int × Bool × Bool)).1, .bool (((0, false, false) : Int × Bool × Bool)).2.1, .bool (((0, false, false) : Int × Bool × Bool)).2.2] (iv 7) rfl rfl (set_three HB14.out _ _ _) rfl) rfl ?_
        exact ⟨rfl, bgoSet (bgoSet (bgoSet (bgo HB2.out HBW.out) (by show w.heap.size ≤ w.heap.size + 1; omega) _) (by show w.heap.size ≤ w.heap.size + 1; omega) _) (by show w.heap.size ≤ w.heap.size + 1; omega) _⟩

end Go.Proofs.Ytoibfafmnaooaaa

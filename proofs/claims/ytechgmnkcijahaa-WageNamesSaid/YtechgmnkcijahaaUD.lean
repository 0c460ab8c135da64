/-
  Contracts of package wage: sum; a stable sort of few numbers; share.
  Contracts of package wage: share.
  Contracts of package wage: share.
  Contracts of package wage: Leave, First, ProveSettle.
-/
import Derived.WalkKit
import Derived.WalkLawsBesides
import Derived.WalkSpells
import Derived.Outline
import Derived.Handy
import Derived.KernelRfl
import Derived.Lib.Hide
import Derived.BigRegion
import Derived.Test.YtechgmnkcijahaaQF
import Derived.Test.YtechgmnkcijahaaVA
import Derived.Deep.Cut
namespace Go.Proofs.Ytechgmnkcijahaa
open Go.RowKit Go.RG Go.SL Go.Shelf Cou Go.TB
set_option maxHeartbeats 400000
set_option maxRecDepth 10000

theorem sum_any (l : List Int) (v : Value) (w : World) (h : IntsAt w v l) (hb : ∀ x ∈ l, -100000 ≤ x ∧ x ≤ 100000) (hl : l.length ≤ 100) : Calls Try.prog 26 #[v] w (PV (iv (sumI l)) w) := by
  have hbd : ∀ k, k ≤ l.length → -100000 * (k : Int) ≤ sumI (l.take k) ∧ sumI (l.take k) ≤ 100000 * (k : Int) := by
    intro k
    induction k with
    | zero => intro _; simp [sumI]
    | succ k ih =>
      intro hk
      have := ih (by omega)
      have hx := hb _ (List.getElem_mem (show k < l.length by omega))
      rw [List.take_succ_eq_append_getElem (show k < l.length by omega), sumI_snoc]
      omega
  obtain ⟨o, c, rfl⟩ := h.open
  have HBD := Lib.hid hbd
  have HH := Lib.hid h
  have HB := Lib.hid hb
  clear hbd h hb
  go_enter Try.func26, Try.ntmps26
  go_wp2_with fail
  go_loopw [2, 7] (fun n i wr => ∃ k : Nat, k ≤ l.length ∧ i = .int .i64 k ∧ n = .int .i64 (sumI (l.take k)) ∧ Below w.heap.size w wr) (fun _ i _ => l.length - (intOf i).toNat)
  case atStart => exact ⟨0, Nat.zero_le _, rfl, rfl, Below.refl _ _⟩
  case round =>
    obtain ⟨k, hk, rfl, rfl, hB⟩ := hrel
    have HW := Lib.hid hB
    by_cases hlt : k < l.length
    · obtain ⟨g, off, rfl, hg, hc⟩ := IntsAt.cell (HH.out.below hB (Nat.le_refl _)) hlt
      have h0 := HBD.out k hk
      have h1 := HBD.out (k + 1) (by omega)
      have hs : sumI (l.take (k + 1)) = sumI (l.take k) + l[k] := by rw [List.take_succ_eq_append_getElem hlt, sumI_snoc]
      rw [hs] at h1
      have HS := Lib.hid hs
      generalize sumI (l.take k) = s at *
      generalize l[k] = y at *
      have hltI : (k : Int) < l.length := by omega
      clear hs hB
      go_wp2_with fail
      go_roundw
      case rel => exact ⟨k + 1, by omega, by go_num, by rw [HS.out], HW.out⟩
      case measure => simp [intOf]; omega
    · have hkl : k = l.length := by omega
      subst hkl
      rw [List.take_length]
      go_wp2_with fail
      go_returns
      exact ⟨by simp, HW.out⟩

/-! ### The stable sort, of few numbers -/
theorem insAt_all {p : Int → Int → Bool} {Q : Int → Prop} : ∀ (j : Nat) (l : List Int), j < l.length → (∀ x ∈ l, Q x) → ∀ x ∈ insAt p l j, Q x
  | 0, l, _, h => h
  | j + 1, l, hj, h => by
    unfold insAt
    split
    · refine insAt_all j _ (by simp; omega) fun x hx => ?_
      rcases List.mem_or_eq_of_mem_set hx with hx | rfl
      · rcases List.mem_or_eq_of_mem_set hx with hx | rfl
        · exact h x hx
        · rw [show l.getD j 0 = l[j] from by simp [List.getD, List.getElem?_eq_getElem (show j < l.length by omega)]]
          exact h _ (List.getElem_mem _)
      · rw [show l.getD (j + 1) 0 = l[j + 1] from by simp [List.getD, List.getElem?_eq_getElem hj]]
        exact h _ (List.getElem_mem _)
    · exact h
theorem insTo_all {p : Int → Int → Bool} {Q : Int → Prop} {l : List Int} (h : ∀ x ∈ l, Q x) : ∀ i, i ≤ l.length → ∀ x ∈ insTo p l i, Q x
  | 0, _ => h
  | i + 1, hi => insAt_all i _ (by rw [insTo_len]; omega) (insTo_all h i (by omega))

def SortPost (p : Int → Int → Bool) (l : List Int) (g : Nat) (w : World) (e : Ending) (W : World) : Prop :=
  e = .returned (.tuple #[]) ∧ W.heap[g]? = some (.cells (intCells (insL p l)).toArray 3 (0, 0)) ∧ Ext [g] w W

theorem insertion_any (p : Int → Int → Bool) (Q : Int → Prop) (fid : Nat) (caps : Array Value) (g c : Nat) (l : List Int) (w : World)
    (eg : ∀ args w, (callFunc fid args).run Try.prog w = .ok (.enter fid args) w) (h1 : 1 ≤ l.length) (h3 : l.length ≤ 1000)
    (hb : w.heap[g]? = some (.cells (intCells l).toArray 3 (0, 0))) (hQ : ∀ x ∈ l, Q x)
    (hcmp : ∀ W, Ext [g] w W → ∀ x y : Int, Q x → Q y → Calls Try.prog fid (#[iv x, iv y] ++ caps) W (fun e W' => ∃ n : Int, e = .returned (iv n) ∧ p x y = decide (n < 0) ∧ Below W.heap.size W W')) :
    Calls Try.prog 86 #[.slice (some ⟨g, 0, none⟩) l.length c, iv 0, iv l.length, .func (.func fid) #[] caps] w (SortPost p l g w) := by
  have hg : g < w.heap.size := (Array.getElem?_eq_some_iff.1 hb).1
  obtain ⟨n, hn⟩ : ∃ n, l.length = n := ⟨_, rfl⟩
  rw [hn] at h1 h3 ⊢
  have HQ := Lib.hid hQ
  have HC := Lib.hid hcmp
  have HB := Lib.hid hb
  have HN := Lib.hid hn
  clear hQ hcmp hb hn
  go_enter Try.func86, Try.ntmps86
  go_wp2_with fail
  go_loopw [8] (fun u wr => ∃ i : Nat, 1 ≤ i ∧ i ≤ n ∧ u = .int .i64 i ∧ wr.heap[g]? = some (.cells (intCells (insTo p l i)).toArray 3 (0, 0)) ∧ Ext [g] w wr) (fun u _ => n - (intOf u).toNat)
  case atStart => exact ⟨1, Nat.le_refl _, h1, rfl, HB.out, Ext.refl _ _⟩
  case round =>
    obtain ⟨i, hi1, hin, rfl, hbk, hE⟩ := hrel
    have HX := Lib.hid (And.intro hbk hE)
    clear hbk hE
    by_cases hlt : i < n
    · have hltI : (i : Int) < n := by omega
      go_wp2_with fail
      go_loopw [9] (fun u wq => ∃ (j : Nat) (lj : List Int), j ≤ i ∧ u = .int .i64 j ∧ lj.length = n ∧ (∀ x ∈ lj, Q x) ∧ insAt p lj j = insTo p l (i + 1) ∧ wq.heap[g]? = some (.cells (intCells lj).toArray 3 (0, 0)) ∧ Ext [g] w wq) (fun u _ => (intOf u).toNat)
      case atStart => exact ⟨i, insTo p l i, Nat.le_refl _, rfl, by rw [insTo_len, HN.out], insTo_all HQ.out i (by rw [HN.out]; omega), rfl, HX.out.1, HX.out.2⟩
      case round =>
        obtain ⟨j, lj, hji, rfl, hll, hlQ, hins, hbk, hE⟩ := hrel
        by_cases hj0 : j = 0
        · subst hj0
          have HY := Lib.hid (And.intro hins (And.intro hbk hE))
          clear hins hbk hE hlQ hll
          have hgt : decide ((0 : Int) > 0) = false := rfl
          go_wp2_with fail
          refine wp_region_rg 14 [] none [] (by as_aux_lemma => kernel_rfl) (by as_aux_lemma => kernel_rfl) ?_
          simp only [List.take_succ_cons, List.take_zero, List.drop_succ_cons, List.drop_zero]
          repeat (first | (refine tree_det (by rfl) _ (by rfl) (fun W hW => by go_simp; (try simp (disch := omega) only [IntWalk.i64_in]); try rfl) ?_; simp only [Act.put, List.setIfInBounds_toArray, List.set_cons_succ, List.set_cons_zero]) | (refine tree_skip (by rfl) (by rfl) ?_; simp only [Act.put, List.setIfInBounds_toArray, List.set_cons_succ, List.set_cons_zero]))
          intro X hE hF
          have hE' : Ext [] wr X := hE
          have HZ := Lib.hid (And.intro ((hE'.block g (Array.getElem?_eq_some_iff.1 HY.out.2.1).1 (by simp)).trans HY.out.2.1) (HY.out.2.2.trans hE'.nil))
          clear hE hF hE'
          go_wp2_with fail
          go_roundw
          case rel => exact ⟨i + 1, by omega, by omega, by go_num, by rw [← HY.out.1]; exact HZ.out.1, HZ.out.2⟩
          case measure => simp [intOf]; omega
        · obtain ⟨k, rfl⟩ : ∃ k, j = k + 1 := ⟨j - 1, by omega⟩
          have hk1 : k + 1 < lj.length := by omega
          have hx := cell_of_ints hbk hk1
          have hy := cell_of_ints hbk (show k < lj.length by omega)
          have hins' := hins
          unfold insAt at hins'
          rw [show lj.getD (k + 1) 0 = lj[k + 1] from by simp [List.getD, List.getElem?_eq_getElem hk1], show lj.getD k 0 = lj[k] from by simp [List.getD, List.getElem?_eq_getElem (show k < lj.length by omega)]] at hins'
          have hQx := hlQ _ (List.getElem_mem hk1)
          have hQy := hlQ _ (List.getElem_mem (show k < lj.length by omega))
          generalize hxe : lj[k + 1] = x at *
          generalize hye : lj[k]'(by omega) = y at *
          have hgw := (Array.getElem?_eq_some_iff.1 hbk).1
          have hgt : decide (((k : Int) + 1) > 0) = true := by simp
          have hgt' : (0 : Int) < (k : Int) + 1 := by omega
          have hkn : (k : Int) + 1 < n := by omega
          have hkn' : (k : Int) < n := by omega
          have HY := Lib.hid (And.intro hins' (And.intro hbk (And.intro hE hll)))
          have HYQ := Lib.hid hlQ
          have HCC := Lib.hid (fun (W : World) (hb : Ext [] wr W) => HC.out W (hE.trans hb.nil) x y hQx hQy)
          have hu : ((k + 1 : Nat) : Int) = (k : Int) + 1 := by push_cast; rfl
          rw [hu]
          have HXY := Lib.hid (show lj[k + 1]? = some x ∧ lj[k]? = some y from ⟨by rw [← hxe]; exact List.getElem?_eq_getElem hk1, by rw [← hye]; exact List.getElem?_eq_getElem (by omega)⟩)
          clear hins hins' hbk hE hlQ hll hk1 hQx hQy hxe hye hu
          go_wp2_with fail
          refine wp_region_rg 14 [] none [] (by as_aux_lemma => kernel_rfl) (by as_aux_lemma => kernel_rfl) ?_
          simp only [List.take_succ_cons, List.take_zero, List.drop_succ_cons, List.drop_zero]
          repeat (first | (refine tree_det (by rfl) _ (by rfl) (fun W hW => by go_simp; (try simp (disch := omega) only [IntWalk.i64_in]); try rfl) ?_; simp only [Act.put, List.setIfInBounds_toArray, List.set_cons_succ, List.set_cons_zero]) | (refine tree_skip (by rfl) (by rfl) ?_; simp only [Act.put, List.setIfInBounds_toArray, List.set_cons_succ, List.set_cons_zero]))
          intro X hE hF
          have hE' : Ext [] wr X := hE
          have HCX := Lib.hid (HCC.out X hE')
          have hgX : g < X.heap.size := Nat.lt_of_lt_of_le hgw hE'.size
          have HZ := Lib.hid (And.intro ((hE'.block g hgw (by simp)).trans HY.out.2.1) (HY.out.2.2.1.trans hE'.nil))
          clear hE hF hE' hx hy
          go_wp2_with fail
          refine HCX.out.mono ?_
          rintro e X2 ⟨m, rfl, hpm, hb2⟩
          have hbk2 := (hb2.block g hgX).trans HZ.out.1
          have HZ2 := Lib.hid (And.intro hbk2 (HZ.out.2.trans (Ext.of_below hb2)))
          clear hb2 hbk2
          cases hp : p x y
          · have hm : ¬ m < 0 := by rw [hp] at hpm; simpa using hpm
            have hmb : decide (m < 0) = false := by simpa using hm
            have HP := Lib.hid hp
            clear hpm hp
            go_wp2_with fail
            go_roundw
            case rel => exact ⟨i + 1, by omega, by omega, by go_num, by have := HY.out.1; rw [HP.out, if_neg (by simp)] at this; rw [← this]; exact HZ2.out.1, HZ2.out.2⟩
            case measure => first | (simp [intOf]; done) | (simp [intOf]; omega)
          · have hm : m < 0 := by rw [hp] at hpm; simpa using hpm
            have hmb : decide (m < 0) = true := by simpa using hm
            have HP := Lib.hid hp
            have hk1 : k + 1 < lj.length := by have := HY.out.2.2.2; omega
            have hx := cell_of_ints HZ2.out.1 hk1
            have hy := cell_of_ints HZ2.out.1 (show k < lj.length by omega)
            rw [show lj[k + 1] = x from Option.some.inj ((List.getElem?_eq_getElem hk1).symm.trans HXY.out.1)] at hx
            rw [show lj[k]'(by omega) = y from Option.some.inj ((List.getElem?_eq_getElem (by omega)).symm.trans HXY.out.2)] at hy
            have hfz := frozen_of_block HZ2.out.1
            have hgX2 := (Array.getElem?_eq_some_iff.1 HZ2.out.1).1
            clear hpm hp hk1
            go_wp2_with fail
            go_region
            have hset : (((X2.setCell ⟨g, k + 1, none⟩ (iv y)).setCell ⟨g, k, none⟩ (iv x)).drew).heap[g]? = some (.cells (intCells ((lj.set (k + 1) y).set k x)).toArray 3 (0, 0)) := by
              have := set_block (o := k) (set_block (o := k + 1) HZ2.out.1 (iv y)) (iv x)
              rw [set_ints, set_ints] at this
              exact this
            have HF := Lib.hid (And.intro hset (((HZ2.out.2.trans (ext_set X2 ⟨g, k + 1, none⟩ (iv y))).trans (ext_set _ ⟨g, k, none⟩ (iv x))).drew))
            clear hset hx hy hfz hgX2
            generalize ((X2.setCell ⟨g, k + 1, none⟩ (iv y)).setCell ⟨g, k, none⟩ (iv x)).drew = X3 at *
            go_wp2_with fail
            go_roundw
            case rel =>
              have hQl : ∀ z ∈ (lj.set (k + 1) y).set k x, Q z := fun z hz => by
                rcases List.mem_or_eq_of_mem_set hz with hz | rfl
                · rcases List.mem_or_eq_of_mem_set hz with hz | rfl
                  · exact HYQ.out z hz
                  · exact HYQ.out _ (List.mem_of_getElem? HXY.out.2)
                · exact HYQ.out _ (List.mem_of_getElem? HXY.out.1)
              exact ⟨k, (lj.set (k + 1) y).set k x, by omega, by go_num, by simp; exact HY.out.2.2.2, hQl, by have := HY.out.1; rw [HP.out, if_pos rfl] at this; exact this, HF.out.1, HF.out.2⟩
            case measure => first | (simp [intOf]; done) | (simp [intOf]; omega)
    · have hil : i = n := by omega
      subst hil
      go_wp2_with fail
      go_returns
      exact ⟨by simp, by have := HX.out.1; rw [← HN.out] at this; exact this, HX.out.2⟩

theorem stable_any (p : Int → Int → Bool) (Q : Int → Prop) (fid : Nat) (caps : Array Value) (g c : Nat) (l : List Int) (w : World)
    (eg : ∀ args w, (callFunc fid args).run Try.prog w = .ok (.enter fid args) w) (h1 : 1 ≤ l.length) (h3 : l.length ≤ 19)
    (hb : w.heap[g]? = some (.cells (intCells l).toArray 3 (0, 0))) (hQ : ∀ x ∈ l, Q x)
    (hcmp : ∀ W, Ext [g] w W → ∀ x y : Int, Q x → Q y → Calls Try.prog fid (#[iv x, iv y] ++ caps) W (fun e W' => ∃ n : Int, e = .returned (iv n) ∧ p x y = decide (n < 0) ∧ Below W.heap.size W W')) :
    Calls Try.prog 65 #[.slice (some ⟨g, 0, none⟩) l.length c, iv l.length, .func (.func fid) #[] caps] w (SortPost p l g w) := by
  have HI := Lib.hid (insertion_any p Q fid caps g c l w eg h1 (by omega) hb hQ hcmp)
  obtain ⟨n, hn⟩ : ∃ n, l.length = n := ⟨_, rfl⟩
  rw [hn] at h1 h3 HI ⊢
  have hlt : ¬ (20 : Int) ≤ n := by omega
  have hlt2 : ¬ (20 : Int) < n := by omega
  clear hb hQ hcmp hn
  go_enter Try.func65, Try.ntmps65
  go_wp2_with fail
  go_loopw [7, 8] (fun a b wr => wr = w ∧ a = iv 0 ∧ b = iv 20) (fun _ _ _ => 0)
  case atStart => exact ⟨rfl, rfl, rfl⟩
  case round =>
    obtain ⟨rfl, rfl, rfl⟩ := hrel
    go_wp2_with fail
    refine HI.out.mono ?_
    rintro e W1 ⟨rfl, h⟩
    have HH := Lib.hid h
    clear h
    go_wp2_with fail
    go_loopw [6] (fun a wr => wr = W1 ∧ a = iv 20) (fun _ _ => 0)
    case atStart => exact ⟨rfl, rfl⟩
    case round =>
      obtain ⟨rfl, rfl⟩ := hrel
      go_wp2_with fail
      go_returns
      exact ⟨by simp, HH.out⟩

theorem sortStable_any (p : Int → Int → Bool) (Q : Int → Prop) (fid : Nat) (caps : Array Value) (g c : Nat) (l : List Int) (w : World)
    (eg : ∀ args w, (callFunc fid args).run Try.prog w = .ok (.enter fid args) w) (h1 : 1 ≤ l.length) (h3 : l.length ≤ 19)
    (hb : w.heap[g]? = some (.cells (intCells l).toArray 3 (0, 0))) (hQ : ∀ x ∈ l, Q x)
    (hcmp : ∀ W, Ext [g] w W → ∀ x y : Int, Q x → Q y → Calls Try.prog fid (#[iv x, iv y] ++ caps) W (fun e W' => ∃ n : Int, e = .returned (iv n) ∧ p x y = decide (n < 0) ∧ Below W.heap.size W W')) :
    Calls Try.prog 44 #[.slice (some ⟨g, 0, none⟩) l.length c, .func (.func fid) #[] caps] w (SortPost p l g w) := by
  have HI := Lib.hid (stable_any p Q fid caps g c l w eg h1 h3 hb hQ hcmp)
  clear hb hQ hcmp
  go_enter Try.func44, Try.ntmps44
  go_wp2_with fail
  refine HI.out.mono ?_
  rintro e W1 ⟨rfl, h⟩
  have HH := Lib.hid h
  clear h
  go_wp2_with fail
  go_returns
  exact ⟨by simp, HH.out⟩
end Go.Proofs.Ytechgmnkcijahaa

namespace Go.Proofs.Ytechgmnkcijahaa
open Go.RowKit Go.RG Go.SL Go.Shelf Cou Go.TB
set_option maxHeartbeats 400000
set_option maxRecDepth 10000

def fillTo (f : Nat → Int) (n k : Nat) : List Int := (List.range n).map fun (i : Nat) => if i < k then f i else 0
theorem fillTo_zero (f : Nat → Int) (n : Nat) : fillTo f n 0 = List.replicate n 0 := by
  unfold fillTo
  refine List.ext_getElem (by simp) fun i h1 h2 => by simp
theorem fillTo_all (f : Nat → Int) (n : Nat) : fillTo f n n = (List.range n).map f := by
  unfold fillTo
  refine List.map_congr_left fun i hi => ?_
  rw [if_pos (List.mem_range.1 hi)]
theorem fillTo_set {f : Nat → Int} {n k : Nat} (_hk : k < n) : (fillTo f n k).set k (f k) = fillTo f n (k + 1) := by
  refine List.ext_getElem (by simp [fillTo]) fun i h1 h2 => ?_
  rw [List.getElem_set]
  simp only [fillTo, List.getElem_map, List.getElem_range]
  by_cases e : k = i
  · subst e; simp
  · rw [if_neg e]
    by_cases h : i < k
    · rw [if_pos h, if_pos (by omega)]
    · rw [if_neg h, if_neg (by omega)]
theorem fillTo_len (f : Nat → Int) (n k : Nat) : (fillTo f n k).length = n := by simp [fillTo]

/-- What share's test reads. -/
structure ShSt (b0 b1 wb : Nat) (of wh : Int) (v : Value) (ns : List Int) (W : World) : Prop where
  k0 : W.heap[b0]? = some (.cells #[iv of] 3 (0, 0))
  k1 : W.heap[b1]? = some (.cells #[v] 36 (0, 0))
  k2 : W.heap[wb]? = some (.cells #[iv wh] 3 (0, 0))
  at_ : IntsAt W v ns
theorem ShSt.ext {b0 b1 wb : Nat} {of wh : Int} {v : Value} {ns : List Int} {W W' : World} (h : ShSt b0 b1 wb of wh v ns W) {Ms : List Nat} (hE : Ext Ms W W') (h0 : b0 ∉ Ms) (h1 : b1 ∉ Ms) (h2 : wb ∉ Ms) (h3 : ∀ x ∈ Ms, v.ownBlock ≠ some x) : ShSt b0 b1 wb of wh v ns W' :=
  ⟨(hE.block _ (Array.getElem?_eq_some_iff.1 h.k0).1 h0).trans h.k0, (hE.block _ (Array.getElem?_eq_some_iff.1 h.k1).1 h1).trans h.k1, (hE.block _ (Array.getElem?_eq_some_iff.1 h.k2).1 h2).trans h.k2, h.at_.ext hE h3⟩

theorem share1_any {b0 b1 wb : Nat} {of wh : Int} {v : Value} {ns : List Int} (x y : Nat) (w : World) (h : ShSt b0 b1 wb of wh v ns w) (hx : x < ns.length) (hy : y < ns.length)
    (h0 : 0 ≤ of ∧ of ≤ 2000) (h1 : 0 < wh) (h1' : wh ≤ 100000) (h2 : wh = sumI ns) (hn : ∀ z ∈ ns, 0 ≤ z ∧ z ≤ 2000) :
    Calls Try.prog 45 #[iv (x : Int), iv (y : Int), .pointer (some ⟨b0, 0, none⟩), .pointer (some ⟨b1, 0, none⟩), .pointer (some ⟨wb, 0, none⟩)] w
      (fun e W' => ∃ n : Int, e = .returned (iv n) ∧ befS of ns (x : Int) (y : Int) = decide (n < 0) ∧ Below w.heap.size w W') := by
  obtain ⟨o, c, rfl⟩ := h.at_.open
  obtain ⟨g, off, e1, q1, c1⟩ := IntsAt.cell h.at_ hx
  obtain ⟨g', off', e2, q2, c2⟩ := IntsAt.cell h.at_ hy
  subst e1
  cases e2
  have hxb := hn _ (List.getElem_mem hx)
  have hyb := hn _ (List.getElem_mem hy)
  have hbe : befS of ns (x : Int) (y : Int) = decide (of * ns[y] % wh - of * ns[x] % wh < 0) := by
    unfold befS remS
    rw [Int.toNat_natCast, Int.toNat_natCast, ← h2, show ns.getD x 0 = ns[x] from by simp [List.getD, hx], show ns.getD y 0 = ns[y] from by simp [List.getD, hy]]
    congr 1
    simp only [eq_iff_iff]
    omega
  rw [hbe]
  generalize ns[x] = a at *
  generalize ns[y] = b at *
  have hma : 0 ≤ of * a ∧ of * a ≤ 2000 * 2000 := ⟨Int.mul_nonneg h0.1 hxb.1, Int.mul_le_mul h0.2 hxb.2 hxb.1 (by omega)⟩
  have hmb : 0 ≤ of * b ∧ of * b ≤ 2000 * 2000 := ⟨Int.mul_nonneg h0.1 hyb.1, Int.mul_le_mul h0.2 hyb.2 hyb.1 (by omega)⟩
  have hra := Int.emod_nonneg (of * a) (show wh ≠ 0 by omega)
  have hra2 := Int.emod_lt_of_pos (of * a) h1
  have hrb := Int.emod_nonneg (of * b) (show wh ≠ 0 by omega)
  have hrb2 := Int.emod_lt_of_pos (of * b) h1
  have hta : (of * a).tmod wh = of * a % wh := Int.tmod_eq_emod_of_nonneg hma.1
  have htb : (of * b).tmod wh = of * b % wh := Int.tmod_eq_emod_of_nonneg hmb.1
  obtain ⟨d0, _, _⟩ := cells_of_block h.k0
  obtain ⟨d1, _, _⟩ := cells_of_block h.k1
  obtain ⟨d2, _, _⟩ := cells_of_block h.k2
  generalize of * a % wh = ra at *
  generalize of * b % wh = rb at *
  have hz : (wh == 0) = false := by rw [beq_eq_false_iff_ne]; omega
  have hz' : ¬ wh = 0 := by omega
  have hxI : (x : Int) < ns.length := by omega
  have hyI : (y : Int) < ns.length := by omega
  clear h hbe h2 hn
  go_enter Try.func45, Try.ntmps45
  go_wp2_with fail
  go_region
  all_goals go_wp2_with fail
  all_goals go_returns
  all_goals exact ⟨rb - ra, by simp, rfl, (by repeat (first | exact Below.refl _ _ | assumption | refine bgo ?_ (by assumption) | refine bgoAlloc ?_ _ | refine bgoDrew ?_ | refine bgoSet ?_ (by simp; omega) _))⟩

theorem mem_insTo_upto {p : Int → Int → Bool} {n : Nat} : ∀ x ∈ insL p (upto n), ∃ i : Nat, i < n ∧ x = (i : Int) := by
  unfold insL
  refine insTo_all (Q := fun x => ∃ i : Nat, i < n ∧ x = (i : Int)) (fun x hx => ?_) _ (Nat.le_refl _)
  simp only [upto, List.mem_map, List.mem_range] at hx
  obtain ⟨i, hi, rfl⟩ := hx
  exact ⟨i, hi, rfl⟩
theorem orderS_len (of : Int) (ns : List Int) : (orderS of ns).length = ns.length := by unfold orderS insL; rw [insTo_len]; simp [upto]

theorem quo_bd {of : Int} {ns : List Int} (h0 : 0 ≤ of ∧ of ≤ 2000) (hs : 0 < sumI ns) (hn : ∀ z ∈ ns, 0 ≤ z ∧ z ≤ 2000) {k : Nat} (hk : k < ns.length) : 0 ≤ quoS of ns k ∧ quoS of ns k ≤ 4000000 := by
  have hb := hn _ (List.getElem_mem hk)
  unfold quoS
  rw [show ns.getD k 0 = ns[k] from by simp [List.getD, hk]]
  generalize ns[k] = a at *
  have h1 : 0 ≤ of * a ∧ of * a ≤ 2000 * 2000 := ⟨Int.mul_nonneg h0.1 hb.1, Int.mul_le_mul h0.2 hb.2 hb.1 (by omega)⟩
  generalize of * a = m at *
  exact ⟨Int.ediv_nonneg h1.1 (by omega), by have := Int.ediv_le_self (sumI ns) h1.1; omega⟩
theorem plusTo_bd {out order : List Int} {B : Int} (ho : ∀ x ∈ out, 0 ≤ x ∧ x ≤ B) (h0 : 0 ≤ B) : ∀ k, k ≤ order.length → ∀ x ∈ plusTo out order k, 0 ≤ x ∧ x ≤ B + k := by
  intro k
  induction k with
  | zero => intro _ x hx; have := ho x (by simpa [plusTo] using hx); omega
  | succ k ih =>
    intro hk x hx
    have ih := ih (by omega)
    rw [plusTo_succ (by omega)] at hx
    rcases List.mem_or_eq_of_mem_set hx with hx | rfl
    · have := ih x hx; push_cast; omega
    · obtain ⟨z, hz⟩ : ∃ z, (plusTo out order k).getD (order[k]).toNat 0 = z := ⟨_, rfl⟩
      have hzb : 0 ≤ z ∧ z ≤ B + k := by
        by_cases hl : (order[k]).toNat < (plusTo out order k).length
        · have := ih _ (List.getElem_mem hl)
          rw [show (plusTo out order k)[(order[k]).toNat] = z from by rw [← hz]; simp [List.getD, hl]] at this
          exact this
        · rw [show z = 0 from by rw [← hz]; simp [List.getD, List.getElem?_eq_none (Nat.le_of_not_lt hl)]]
          omega
      rw [hz]
      omega
theorem shareL_len (of : Int) (ns : List Int) : (shareL of ns).length = ns.length := by unfold shareL; rw [plusTo_len, quosL_len]
end Go.Proofs.Ytechgmnkcijahaa

namespace Go.Proofs.Ytechgmnkcijahaa
open Go.RowKit Go.RG Go.SL Go.Shelf Cou Go.TB
set_option maxHeartbeats 400000
set_option maxRecDepth 10000

def PShareI (l : List Int) (w : World) (e : Ending) (w' : World) : Prop := ∃ v, e = .returned v ∧ w'.ownsRow w.heap.size 3 1 v l.length (intCells l) ∧ Below w.heap.size w w'

theorem share_any (of : Int) (ns : List Int) (v : Value) (w : World) (h : IntsAt w v ns) (h0 : 0 ≤ of ∧ of ≤ 2000) (hs : 0 < sumI ns) (hn : ∀ z ∈ ns, 0 ≤ z ∧ z ≤ 2000) (h3 : ns.length ≤ 3) :
    Calls Try.prog 27 #[iv of, v] w (PShareI (shareL of ns) w) := by
  have hne : ns ≠ [] := fun e => by rw [e] at hs; simp [sumI] at hs
  have hn1 : 1 ≤ ns.length := by cases ns with | nil => exact absurd rfl hne | cons _ _ => simp
  obtain ⟨l0, l1, _⟩ := left_bd (of := of) hs hne
  have hsb : sumI ns ≤ 6000 := by
    have : ∀ l : List Int, (∀ z ∈ l, 0 ≤ z ∧ z ≤ 2000) → sumI l ≤ 2000 * l.length := by
      intro l
      induction l with
      | nil => intro _; simp [sumI]
      | cons a l ih => intro hl; have := ih (fun z hz => hl z (by simp [hz])); have := hl a (by simp); rw [sumI_cons]; simp only [List.length_cons]; push_cast; omega
    have := this ns hn
    omega
  have HSUM := Lib.hid (sum_any ns v)
  have hqb := fun (k : Nat) (hk : k < ns.length) => quo_bd h0 hs hn hk
  have hlb : ∀ k, k ≤ ns.length → 0 ≤ sumI ((List.range k).map (quoS of ns)) ∧ sumI ((List.range k).map (quoS of ns)) ≤ 4000000 * k := by
    intro k
    induction k with
    | zero => intro _; simp [sumI]
    | succ k ih =>
      intro hk
      have := ih (by omega)
      have := hqb k (by omega)
      rw [List.range_succ, List.map_append, List.map_cons, List.map_nil, sumI_snoc]
      omega
  have HQB := Lib.hid hqb
  have HLB := Lib.hid hlb
  have HH := Lib.hid h
  have HLEFT := Lib.hid (And.intro l0 l1)
  have HSN := Lib.hid (And.intro hs hn)
  obtain ⟨n, hnn⟩ : ∃ n, ns.length = n := ⟨_, rfl⟩
  obtain ⟨o, c, rfl⟩ := h.open
  rw [hnn] at hn1 h3
  have HN := Lib.hid hnn
  have hmk := make_ints n (by omega)
  have hvb : ∀ g, (Value.slice o ns.length c).ownBlock = some g → g < w.heap.size := fun g hg => by
    cases o with
    | none => simp [Value.ownBlock] at hg
    | some a =>
      obtain ⟨k, off, e, hk, _⟩ := IntsAt.cell h (show 0 < ns.length by omega)
      cases e
      have : k = g := by simpa [Value.ownBlock] using hg
      omega
  have HVB := Lib.hid hvb
  rw [hnn] at HSUM HVB ⊢
  clear h hqb hlb hne hvb l0 l1 hn hnn
  obtain ⟨wh, hwh⟩ : ∃ wh, sumI ns = wh := ⟨_, rfl⟩
  rw [hwh] at hs hsb
  have HWH := Lib.hid hwh
  clear hwh
  go_enter Try.func27, Try.ntmps27
  go_wp2_with fail
  refine (HSUM.out _ (by rw [← HN.out]; exact (HH.out.alloc _).alloc _) (fun x hx => by have := HSN.out.2 x hx; omega) (by omega)).mono ?_
  rintro e W1 ⟨rfl, hb⟩
  rw [HWH.out]
  have hB1 : Below w.heap.size w W1 := (by repeat (first | exact Below.refl _ _ | assumption | refine bgo ?_ (by assumption) | refine bgoAlloc ?_ _ | refine bgoDrew ?_ | refine bgoSet ?_ (by simp; omega) _))
  have k0 := (hb.block w.heap.size (by simp; omega)).trans ((Below.heap_alloc _ _ _ (by simp)).trans (heap_new0 w (.cells #[iv of] 3)))
  have k1 := (hb.block (w.heap.size + 1) (by simp)).trans (heap_new1 w (.cells #[iv of] 3) (.cells #[.slice o n c] 36))
  have HST1 := Lib.hid (And.intro hB1 (And.intro k0 k1))
  obtain ⟨c0, f0, q0⟩ := cells_of_block k0
  obtain ⟨c1, f1, q1⟩ := cells_of_block k1
  clear hb hB1 k0 k1
  go_upto_region 2 with (fail)
  refine gworld fun W2 hW2 => ?_
  have hB2 : Below W1.heap.size W1 W2 := by rw [hW2]; exact (by repeat (first | exact Below.refl _ _ | assumption | refine bgo ?_ (by assumption) | refine bgoAlloc ?_ _ | refine bgoDrew ?_ | refine bgoSet ?_ (by simp; omega) _))
  have k2 : W2.heap[W1.heap.size]? = some (.cells #[iv wh] 3 (0, 0)) := by rw [hW2]; first | exact heap_new0 _ _ | (have := set_block (o := 0) (heap_new0 W1 (.cells #[iv 0] 3)) (iv wh); exact this)
  have HW2 := Lib.hid (And.intro (bgo HST1.out.1 hB2) (And.intro ((hB2.block _ q0).trans HST1.out.2.1) (And.intro ((hB2.block _ q1).trans HST1.out.2.2) k2)))
  obtain ⟨wb, hwb⟩ : ∃ wb, W1.heap.size = wb := ⟨_, rfl⟩
  rw [hwb] at k2 HW2
  rw [hwb]
  have hwb2 : w.heap.size + 2 ≤ wb := by omega
  have HST2 := Lib.hid (show ShSt w.heap.size (w.heap.size + 1) wb of wh (.slice o n c) ns W2 from ⟨HW2.out.2.1, HW2.out.2.2.1, k2, by have := HH.out.below HW2.out.1 (Nat.le_refl _); rw [HN.out] at this; unfold IntsAt; rw [HN.out]; exact this⟩)
  clear c0 f0 q0 c1 f1 q1 hB2 hwb hW2
  obtain ⟨c0, f0, q0⟩ := cells_of_block HST2.out.k0
  obtain ⟨c1, f1, q1⟩ := cells_of_block HST2.out.k1
  obtain ⟨c2, f2, q2⟩ := cells_of_block HST2.out.k2
  clear k2
  go_region
  · skip
    obtain ⟨W3, hW3⟩ : ∃ W3, ((W2.alloc (.cells (intCells (List.replicate n 0)).toArray 3)).alloc (.cells (intCells (List.replicate n 0)).toArray 3)).drew = W3 := ⟨_, rfl⟩
    rw [hW3]
    have hB3 : Below W2.heap.size W2 W3 := by rw [← hW3]; exact bgoDrew (bgoAlloc (bgoAlloc (Below.refl _ _) _) _)
    have ko : W3.heap[W2.heap.size]? = some (.cells (intCells (fillTo (quoS of ns) n 0)).toArray 3 (0, 0)) := by
      rw [← hW3, fillTo_zero]
      show ((W2.alloc (.cells (intCells (List.replicate n 0)).toArray 3)).alloc (.cells (intCells (List.replicate n 0)).toArray 3)).heap[W2.heap.size]? = _
      exact (Below.heap_alloc _ _ _ (by simp)).trans (heap_new0 _ _)
    have kq : W3.heap[W2.heap.size + 1]? = some (.cells (intCells (evTo n 0)).toArray 3 (0, 0)) := by
      rw [← hW3, evTo_zero]
      show ((W2.alloc (.cells (intCells (List.replicate n 0)).toArray 3)).alloc (.cells (intCells (List.replicate n 0)).toArray 3)).heap[W2.heap.size + 1]? = _
      exact heap_new1 _ _ _
    have hst3 : ShSt w.heap.size (w.heap.size + 1) wb of wh (.slice o n c) ns W3 := HST2.out.ext (Ms := []) (Ext.of_below hB3) (by simp) (by simp) (by simp) (by simp)
    have hB3w := bgo HW2.out.1 hB3
    clear hB3 hW3 c0 f0 q0 c1 f1 q1 c2 f2 hmk HW2 HST2 HST1
    obtain ⟨bo, hbo⟩ : ∃ bo, W2.heap.size = bo := ⟨_, rfl⟩
    obtain ⟨bq, hbq⟩ : ∃ bq, W2.heap.size + 1 = bq := ⟨_, rfl⟩
    have n1 : ¬ bo = bq := by omega
    have n2 : ¬ bq = bo := by omega
    have n3 : wb < bo := by omega
    have n4 : wb < bq := by omega
    rw [hbo] at ko
    rw [hbq] at kq
    (first | rw [hbq, hbo] | rw [hbo, hbq])
    have HS3 := Lib.hid (And.intro hst3 (And.intro hB3w (And.intro ko kq)))
    clear hbo hbq ko kq hst3 hB3w q2
    obtain ⟨d0, _, _⟩ := cells_of_block HS3.out.1.k0
    obtain ⟨d1, _, _⟩ := cells_of_block HS3.out.1.k1
    go_wp2_with fail
    clear d0 d1
    go_loopw [8, 24] (fun u i wr => ∃ k : Nat, k ≤ n ∧ i = .int .i64 k ∧ u = .int .i64 (of - sumI ((List.range k).map (quoS of ns))) ∧ wr.heap[bo]? = some (.cells (intCells (fillTo (quoS of ns) n k)).toArray 3 (0, 0)) ∧ wr.heap[bq]? = some (.cells (intCells (evTo n k)).toArray 3 (0, 0)) ∧ ShSt w.heap.size (w.heap.size + 1) wb of wh (.slice o n c) ns wr ∧ Below w.heap.size w wr) (fun _ i _ => n - (intOf i).toNat)
    case atStart => exact ⟨0, Nat.zero_le _, rfl, by simp [sumI], HS3.out.2.2.1, HS3.out.2.2.2, HS3.out.1, HS3.out.2.1⟩
    case round =>
      obtain ⟨k, hk, rfl, rfl, ko, kq, hst, hB⟩ := hrel
      by_cases hlt : k < n
      · have hkn : k < ns.length := by rw [HN.out]; exact hlt
        have hat := hst.at_
        obtain ⟨g, off, hv, hg, hc⟩ := IntsAt.cell (show SlAt 1 wr (.slice o ns.length c) ns.length (intCells ns) from by rw [HN.out]; have := hat; unfold IntsAt at this; rw [HN.out] at this; exact this) hkn
        have hgw : g < w.heap.size := HVB.out g (by rw [hv]; rfl)
        have hcell := cell_of_ints ko (show k < (fillTo (quoS of ns) n k).length by rw [fillTo_len]; exact hlt)
        have hceq := cell_of_ints kq (show k < (evTo n k).length by rw [evTo_len]; exact hlt)
        generalize (fillTo (quoS of ns) n k)[k]'(by rw [fillTo_len]; exact hlt) = x1 at hcell
        generalize (evTo n k)[k]'(by rw [evTo_len]; exact hlt) = x2 at hceq
        have hfo := frozen_of_block ko k
        have hfq := frozen_of_block kq k
        obtain ⟨d0, _, _⟩ := cells_of_block hst.k0
        obtain ⟨d2, _, _⟩ := cells_of_block hst.k2
        have q1 := (Array.getElem?_eq_some_iff.1 ko).1
        have q2 := (Array.getElem?_eq_some_iff.1 kq).1
        have hyb := HSN.out.2 _ (List.getElem_mem hkn)
        have hq := HQB.out k hkn
        have hqe : quoS of ns k = of * ns[k] / wh := by unfold quoS; rw [HWH.out, show ns.getD k 0 = ns[k] from by simp [List.getD, hkn]]
        have hm : 0 ≤ of * ns[k] ∧ of * ns[k] ≤ 2000 * 2000 := ⟨Int.mul_nonneg h0.1 hyb.1, Int.mul_le_mul h0.2 hyb.2 hyb.1 (by omega)⟩
        have htd : (of * ns[k]).tdiv wh = quoS of ns k := by rw [hqe]; exact Int.tdiv_eq_ediv_of_nonneg hm.1
        have hsb1 := HLB.out k (by omega)
        have hsu : sumI ((List.range (k + 1)).map (quoS of ns)) = sumI ((List.range k).map (quoS of ns)) + quoS of ns k := by rw [List.range_succ, List.map_append, List.map_cons, List.map_nil, sumI_snoc]
        have hfs := fillTo_set (f := quoS of ns) hlt
        have HX := Lib.hid (And.intro ko (And.intro kq (And.intro hst (And.intro hB (And.intro hsu hfs)))))
        clear hqe hsu hfs ko kq hst hB hat
        generalize ns[k] = y at *
        generalize quoS of ns k = qk at *
        generalize sumI ((List.range k).map (quoS of ns)) = sk at *
        have hz : (wh == 0) = false := by rw [beq_eq_false_iff_ne]; omega
        have hz' : ¬ wh = 0 := by omega
        have hltI : (k : Int) < n := by omega
        have hgo : ¬ g = bo := by omega
        have hgq : ¬ g = bq := by omega
        cases hv
        go_wp2_with fail
        go_roundw
        case rel =>
          have hE : Ext [bo, bq] wr ((wr.setCell ⟨bo, k, none⟩ (iv qk)).setCell ⟨bq, k, none⟩ (iv k)) := ((ext_set wr ⟨bo, k, none⟩ (iv qk)).more (by simp)).trans ((ext_set _ ⟨bq, k, none⟩ (iv k)).more (by simp))
          refine ⟨k + 1, by omega, by go_num, by rw [HX.out.2.2.2.2.1]; first | (congr 1; omega) | rfl, ?_, ?_, HX.out.2.2.1.ext hE (by simp; omega) (by simp; omega) (by simp; omega) (fun x hx e => ?_), bgoSet (bgoSet HX.out.2.2.2.1 (by simp; omega) _) (by simp; omega) _⟩
          · rw [← HX.out.2.2.2.2.2, ← set_ints]
            exact (Below.heap_setCell _ _ _ _ n1).trans (set_block HX.out.1 _)
          · rw [← evTo_set hlt, ← set_ints]
            exact set_block ((Below.heap_setCell _ _ _ _ n2).trans HX.out.2.1) _
          · have : g = x := by simpa [Value.ownBlock] using e
            simp at hx
            omega
        case measure => simp [intOf]; omega
      · have hkn : k = n := by omega
        rw [hkn] at ko kq ⊢
        clear hkn hk hlt
        have hn00 := HLEFT.out
        obtain ⟨L, hL⟩ : ∃ L : Nat, leftS of ns = (L : Int) := ⟨(leftS of ns).toNat, by omega⟩
        rw [hL] at hn00
        have hLn : L < n := by have := HN.out; omega
        have hLe : of - sumI ((List.range n).map (quoS of ns)) = (L : Int) := by rw [← hL]; unfold leftS quosL; rw [HN.out]
        rw [hLe]
        have HL := Lib.hid hL
        have hul : (upto n).length = n := by simp [upto]
        rw [fillTo_all] at ko
        rw [evTo_all] at kq
        have hSO := sortStable_any (befS of ns) (fun x => ∃ i : Nat, i < n ∧ x = (i : Int)) 45 #[.pointer (some ⟨w.heap.size, 0, none⟩), .pointer (some ⟨w.heap.size + 1, 0, none⟩), .pointer (some ⟨wb, 0, none⟩)] bq n (upto n) wr (enters_of Try.func45 (by kernel_rfl) rfl) (by rw [hul]; omega) (by rw [hul]; omega) kq
          (fun x hx => by simp only [upto, List.mem_map, List.mem_range] at hx; obtain ⟨i, hi, rfl⟩ := hx; exact ⟨i, hi, rfl⟩)
          (fun W hE x y hx hy => by
            obtain ⟨i, hi, rfl⟩ := hx
            obtain ⟨j, hj, rfl⟩ := hy
            refine share1_any i j W (hst.ext hE (by simp; omega) (by simp; omega) (by simp; omega) (fun x hx e => ?_)) (by rw [HN.out]; exact hi) (by rw [HN.out]; exact hj) h0 hs (by omega) HWH.out.symm HSN.out.2
            have := HVB.out x e
            simp at hx
            omega)
        rw [hul] at hSO
        have HSO := Lib.hid hSO
        have HX := Lib.hid (And.intro ko hB)
        have hboq := (Array.getElem?_eq_some_iff.1 ko).1
        clear hSO ko kq hB hLe hL hst hul hn00
        go_wp2_with fail
        refine HSO.out.mono ?_
        rintro e W4 ⟨rfl, kq, hE⟩
        rw [show insL (befS of ns) (upto n) = orderS of ns from by unfold orderS; rw [HN.out]] at kq
        have ko : W4.heap[bo]? = some (.cells (intCells (quosL of ns)).toArray 3 (0, 0)) := by
          have := (hE.block bo hboq (by simp; omega)).trans HX.out.1
          rw [this]
          unfold quosL
          rw [HN.out]
        have hB4 : Below w.heap.size w W4 := below_of_ext HX.out.2 hE (by omega)
        have HX4 := Lib.hid (And.intro ko (And.intro kq hB4))
        have hq4 := (Array.getElem?_eq_some_iff.1 kq).1
        have ho4 := (Array.getElem?_eq_some_iff.1 ko).1
        have hLI : (L : Int) ≤ n := by omega
        clear hE ko kq hB4 hboq
        go_wp2_with fail
        have hqs := fun (x : Int) (hx : x ∈ quosL of ns) => show 0 ≤ x ∧ x ≤ 4000000 from by
          simp only [quosL, List.mem_map, List.mem_range] at hx
          obtain ⟨i, hi, rfl⟩ := hx
          exact HQB.out i hi
        have HPB := Lib.hid (fun (k : Nat) (hk : k ≤ (orderS of ns).length) => plusTo_bd (order := orderS of ns) hqs (by omega) k hk)
        have hol : (orderS of ns).length = n := by rw [orderS_len, HN.out]
        have HOL := Lib.hid hol
        have HOM := Lib.hid (show ∀ x ∈ orderS of ns, ∃ i : Nat, i < n ∧ x = (i : Int) from by unfold orderS; rw [HN.out]; exact mem_insTo_upto)
        have HQL := Lib.hid (show (quosL of ns).length = n from by rw [quosL_len, HN.out])
        clear hqs hol
        go_loopw [55] (fun u wq => ∃ k : Nat, k ≤ L ∧ u = .int .i64 k ∧ wq.heap[bo]? = some (.cells (intCells (plusTo (quosL of ns) (orderS of ns) k)).toArray 3 (0, 0)) ∧ Ext [bo] W4 wq) (fun u _ => L - (intOf u).toNat)
        case atStart => exact ⟨0, Nat.zero_le _, rfl, HX4.out.1, Ext.refl _ _⟩
        case round =>
          obtain ⟨k, hk, rfl, ko, hE⟩ := hrel
          by_cases hlt : k < L
          · have hkq : k < (orderS of ns).length := by have := HOL.out; omega
            have kq := (hE.block bq hq4 (by simp; omega)).trans HX4.out.2.1
            have hcq := cell_of_ints kq hkq
            obtain ⟨i, hi, hie⟩ := HOM.out _ (List.getElem_mem hkq)
            have hps := plusTo_succ (out := quosL of ns) hkq
            have hpl : (plusTo (quosL of ns) (orderS of ns) k).length = n := by rw [plusTo_len]; exact HQL.out
            have hbd := HPB.out k (by omega)
            rw [hie] at hcq hps
            rw [Int.toNat_natCast] at hps
            clear hie hkq kq
            have hip : i < (plusTo (quosL of ns) (orderS of ns) k).length := by omega
            rw [show (plusTo (quosL of ns) (orderS of ns) k).getD i 0 = (plusTo (quosL of ns) (orderS of ns) k)[i] from by simp [List.getD, hip]] at hps
            have hco := cell_of_ints ko hip
            have hfo := frozen_of_block ko i
            have hxb := hbd _ (List.getElem_mem hip)
            have hob := (Array.getElem?_eq_some_iff.1 ko).1
            have HY := Lib.hid (And.intro ko (And.intro hE hps))
            clear ko hE hps hpl hbd
            generalize (plusTo (quosL of ns) (orderS of ns) k)[i] = x at *
            have hltI : (k : Int) < L := by omega
            have hiI : (i : Int) < n := by omega
            go_wp2_with fail
            go_roundw
            case rel =>
              refine ⟨k + 1, by omega, by go_num, ?_, HY.out.2.1.trans (ext_set _ ⟨bo, i, none⟩ _)⟩
              rw [HY.out.2.2, ← set_ints]
              exact set_block HY.out.1 _
            case measure => simp [intOf]; omega
          · have hkL : k = L := by omega
            rw [hkL] at ko
            have hfin : plusTo (quosL of ns) (orderS of ns) L = shareL of ns := by unfold shareL; rw [HL.out, Int.toNat_natCast]
            rw [hfin] at ko
            have hsl : (shareL of ns).length = n := by rw [shareL_len, HN.out]
            have HF := Lib.hid (And.intro ko (And.intro (below_of_ext HX4.out.2.2 hE (by omega)) hsl))
            clear ko hE hfin hsl
            go_wp2_with fail
            go_returns
            refine ⟨.slice (some ⟨bo, 0, none⟩) n n, by simp, ?_, HF.out.2.1⟩
            rw [HF.out.2.2]
            exact owns_block HF.out.1 (by simp [HF.out.2.2]) (by omega) (by simp only [maxLen]; omega)
  · skip
    obtain ⟨W3, hW3⟩ : ∃ W3, ((W2.alloc (.cells (intCells (List.replicate n 0)).toArray 3)).alloc (.cells (intCells (List.replicate n 0)).toArray 3)).drew = W3 := ⟨_, rfl⟩
    rw [hW3]
    have hB3 : Below W2.heap.size W2 W3 := by rw [← hW3]; exact bgoDrew (bgoAlloc (bgoAlloc (Below.refl _ _) _) _)
    have ko : W3.heap[W2.heap.size + 1]? = some (.cells (intCells (fillTo (quoS of ns) n 0)).toArray 3 (0, 0)) := by
      rw [← hW3, fillTo_zero]
      show ((W2.alloc (.cells (intCells (List.replicate n 0)).toArray 3)).alloc (.cells (intCells (List.replicate n 0)).toArray 3)).heap[W2.heap.size + 1]? = _
      exact heap_new1 _ _ _
    have kq : W3.heap[W2.heap.size]? = some (.cells (intCells (evTo n 0)).toArray 3 (0, 0)) := by
      rw [← hW3, evTo_zero]
      show ((W2.alloc (.cells (intCells (List.replicate n 0)).toArray 3)).alloc (.cells (intCells (List.replicate n 0)).toArray 3)).heap[W2.heap.size]? = _
      exact (Below.heap_alloc _ _ _ (by simp)).trans (heap_new0 _ _)
    have hst3 : ShSt w.heap.size (w.heap.size + 1) wb of wh (.slice o n c) ns W3 := HST2.out.ext (Ms := []) (Ext.of_below hB3) (by simp) (by simp) (by simp) (by simp)
    have hB3w := bgo HW2.out.1 hB3
    clear hB3 hW3 c0 f0 q0 c1 f1 q1 c2 f2 hmk HW2 HST2 HST1
    obtain ⟨bo, hbo⟩ : ∃ bo, W2.heap.size + 1 = bo := ⟨_, rfl⟩
    obtain ⟨bq, hbq⟩ : ∃ bq, W2.heap.size = bq := ⟨_, rfl⟩
    have n1 : ¬ bo = bq := by omega
    have n2 : ¬ bq = bo := by omega
    have n3 : wb < bo := by omega
    have n4 : wb < bq := by omega
    rw [hbo] at ko
    rw [hbq] at kq
    (first | rw [hbq, hbo] | rw [hbo, hbq])
    have HS3 := Lib.hid (And.intro hst3 (And.intro hB3w (And.intro ko kq)))
    clear hbo hbq ko kq hst3 hB3w q2
    obtain ⟨d0, _, _⟩ := cells_of_block HS3.out.1.k0
    obtain ⟨d1, _, _⟩ := cells_of_block HS3.out.1.k1
    go_wp2_with fail
    clear d0 d1
    go_loopw [8, 24] (fun u i wr => ∃ k : Nat, k ≤ n ∧ i = .int .i64 k ∧ u = .int .i64 (of - sumI ((List.range k).map (quoS of ns))) ∧ wr.heap[bo]? = some (.cells (intCells (fillTo (quoS of ns) n k)).toArray 3 (0, 0)) ∧ wr.heap[bq]? = some (.cells (intCells (evTo n k)).toArray 3 (0, 0)) ∧ ShSt w.heap.size (w.heap.size + 1) wb of wh (.slice o n c) ns wr ∧ Below w.heap.size w wr) (fun _ i _ => n - (intOf i).toNat)
    case atStart => exact ⟨0, Nat.zero_le _, rfl, by simp [sumI], HS3.out.2.2.1, HS3.out.2.2.2, HS3.out.1, HS3.out.2.1⟩
    case round =>
      obtain ⟨k, hk, rfl, rfl, ko, kq, hst, hB⟩ := hrel
      by_cases hlt : k < n
      · have hkn : k < ns.length := by rw [HN.out]; exact hlt
        have hat := hst.at_
        obtain ⟨g, off, hv, hg, hc⟩ := IntsAt.cell (show SlAt 1 wr (.slice o ns.length c) ns.length (intCells ns) from by rw [HN.out]; have := hat; unfold IntsAt at this; rw [HN.out] at this; exact this) hkn
        have hgw : g < w.heap.size := HVB.out g (by rw [hv]; rfl)
        have hcell := cell_of_ints ko (show k < (fillTo (quoS of ns) n k).length by rw [fillTo_len]; exact hlt)
        have hceq := cell_of_ints kq (show k < (evTo n k).length by rw [evTo_len]; exact hlt)
        generalize (fillTo (quoS of ns) n k)[k]'(by rw [fillTo_len]; exact hlt) = x1 at hcell
        generalize (evTo n k)[k]'(by rw [evTo_len]; exact hlt) = x2 at hceq
        have hfo := frozen_of_block ko k
        have hfq := frozen_of_block kq k
        obtain ⟨d0, _, _⟩ := cells_of_block hst.k0
        obtain ⟨d2, _, _⟩ := cells_of_block hst.k2
        have q1 := (Array.getElem?_eq_some_iff.1 ko).1
        have q2 := (Array.getElem?_eq_some_iff.1 kq).1
        have hyb := HSN.out.2 _ (List.getElem_mem hkn)
        have hq := HQB.out k hkn
        have hqe : quoS of ns k = of * ns[k] / wh := by unfold quoS; rw [HWH.out, show ns.getD k 0 = ns[k] from by simp [List.getD, hkn]]
        have hm : 0 ≤ of * ns[k] ∧ of * ns[k] ≤ 2000 * 2000 := ⟨Int.mul_nonneg h0.1 hyb.1, Int.mul_le_mul h0.2 hyb.2 hyb.1 (by omega)⟩
        have htd : (of * ns[k]).tdiv wh = quoS of ns k := by rw [hqe]; exact Int.tdiv_eq_ediv_of_nonneg hm.1
        have hsb1 := HLB.out k (by omega)
        have hsu : sumI ((List.range (k + 1)).map (quoS of ns)) = sumI ((List.range k).map (quoS of ns)) + quoS of ns k := by rw [List.range_succ, List.map_append, List.map_cons, List.map_nil, sumI_snoc]
        have hfs := fillTo_set (f := quoS of ns) hlt
        have HX := Lib.hid (And.intro ko (And.intro kq (And.intro hst (And.intro hB (And.intro hsu hfs)))))
        clear hqe hsu hfs ko kq hst hB hat
        generalize ns[k] = y at *
        generalize quoS of ns k = qk at *
        generalize sumI ((List.range k).map (quoS of ns)) = sk at *
        have hz : (wh == 0) = false := by rw [beq_eq_false_iff_ne]; omega
        have hz' : ¬ wh = 0 := by omega
        have hltI : (k : Int) < n := by omega
        have hgo : ¬ g = bo := by omega
        have hgq : ¬ g = bq := by omega
        cases hv
        go_wp2_with fail
        go_roundw
        case rel =>
          have hE : Ext [bo, bq] wr ((wr.setCell ⟨bo, k, none⟩ (iv qk)).setCell ⟨bq, k, none⟩ (iv k)) := ((ext_set wr ⟨bo, k, none⟩ (iv qk)).more (by simp)).trans ((ext_set _ ⟨bq, k, none⟩ (iv k)).more (by simp))
          refine ⟨k + 1, by omega, by go_num, by rw [HX.out.2.2.2.2.1]; first | (congr 1; omega) | rfl, ?_, ?_, HX.out.2.2.1.ext hE (by simp; omega) (by simp; omega) (by simp; omega) (fun x hx e => ?_), bgoSet (bgoSet HX.out.2.2.2.1 (by simp; omega) _) (by simp; omega) _⟩
          · rw [← HX.out.2.2.2.2.2, ← set_ints]
            exact (Below.heap_setCell _ _ _ _ n1).trans (set_block HX.out.1 _)
          · rw [← evTo_set hlt, ← set_ints]
            exact set_block ((Below.heap_setCell _ _ _ _ n2).trans HX.out.2.1) _
          · have : g = x := by simpa [Value.ownBlock] using e
            simp at hx
            omega
        case measure => simp [intOf]; omega
      · have hkn : k = n := by omega
        rw [hkn] at ko kq ⊢
        clear hkn hk hlt
        have hn00 := HLEFT.out
        obtain ⟨L, hL⟩ : ∃ L : Nat, leftS of ns = (L : Int) := ⟨(leftS of ns).toNat, by omega⟩
        rw [hL] at hn00
        have hLn : L < n := by have := HN.out; omega
        have hLe : of - sumI ((List.range n).map (quoS of ns)) = (L : Int) := by rw [← hL]; unfold leftS quosL; rw [HN.out]
        rw [hLe]
        have HL := Lib.hid hL
        have hul : (upto n).length = n := by simp [upto]
        rw [fillTo_all] at ko
        rw [evTo_all] at kq
        have hSO := sortStable_any (befS of ns) (fun x => ∃ i : Nat, i < n ∧ x = (i : Int)) 45 #[.pointer (some ⟨w.heap.size, 0, none⟩), .pointer (some ⟨w.heap.size + 1, 0, none⟩), .pointer (some ⟨wb, 0, none⟩)] bq n (upto n) wr (enters_of Try.func45 (by kernel_rfl) rfl) (by rw [hul]; omega) (by rw [hul]; omega) kq
          (fun x hx => by simp only [upto, List.mem_map, List.mem_range] at hx; obtain ⟨i, hi, rfl⟩ := hx; exact ⟨i, hi, rfl⟩)
          (fun W hE x y hx hy => by
            obtain ⟨i, hi, rfl⟩ := hx
            obtain ⟨j, hj, rfl⟩ := hy
            refine share1_any i j W (hst.ext hE (by simp; omega) (by simp; omega) (by simp; omega) (fun x hx e => ?_)) (by rw [HN.out]; exact hi) (by rw [HN.out]; exact hj) h0 hs (by omega) HWH.out.symm HSN.out.2
            have := HVB.out x e
            simp at hx
            omega)
        rw [hul] at hSO
        have HSO := Lib.hid hSO
        have HX := Lib.hid (And.intro ko hB)
        have hboq := (Array.getElem?_eq_some_iff.1 ko).1
        clear hSO ko kq hB hLe hL hst hul hn00
        go_wp2_with fail
        refine HSO.out.mono ?_
        rintro e W4 ⟨rfl, kq, hE⟩
        rw [show insL (befS of ns) (upto n) = orderS of ns from by unfold orderS; rw [HN.out]] at kq
        have ko : W4.heap[bo]? = some (.cells (intCells (quosL of ns)).toArray 3 (0, 0)) := by
          have := (hE.block bo hboq (by simp; omega)).trans HX.out.1
          rw [this]
          unfold quosL
          rw [HN.out]
        have hB4 : Below w.heap.size w W4 := below_of_ext HX.out.2 hE (by omega)
        have HX4 := Lib.hid (And.intro ko (And.intro kq hB4))
        have hq4 := (Array.getElem?_eq_some_iff.1 kq).1
        have ho4 := (Array.getElem?_eq_some_iff.1 ko).1
        have hLI : (L : Int) ≤ n := by omega
        clear hE ko kq hB4 hboq
        go_wp2_with fail
        have hqs := fun (x : Int) (hx : x ∈ quosL of ns) => show 0 ≤ x ∧ x ≤ 4000000 from by
          simp only [quosL, List.mem_map, List.mem_range] at hx
          obtain ⟨i, hi, rfl⟩ := hx
          exact HQB.out i hi
        have HPB := Lib.hid (fun (k : Nat) (hk : k ≤ (orderS of ns).length) => plusTo_bd (order := orderS of ns) hqs (by omega) k hk)
        have hol : (orderS of ns).length = n := by rw [orderS_len, HN.out]
        have HOL := Lib.hid hol
        have HOM := Lib.hid (show ∀ x ∈ orderS of ns, ∃ i : Nat, i < n ∧ x = (i : Int) from by unfold orderS; rw [HN.out]; exact mem_insTo_upto)
        have HQL := Lib.hid (show (quosL of ns).length = n from by rw [quosL_len, HN.out])
        clear hqs hol
        go_loopw [55] (fun u wq => ∃ k : Nat, k ≤ L ∧ u = .int .i64 k ∧ wq.heap[bo]? = some (.cells (intCells (plusTo (quosL of ns) (orderS of ns) k)).toArray 3 (0, 0)) ∧ Ext [bo] W4 wq) (fun u _ => L - (intOf u).toNat)
        case atStart => exact ⟨0, Nat.zero_le _, rfl, HX4.out.1, Ext.refl _ _⟩
        case round =>
          obtain ⟨k, hk, rfl, ko, hE⟩ := hrel
          by_cases hlt : k < L
          · have hkq : k < (orderS of ns).length := by have := HOL.out; omega
            have kq := (hE.block bq hq4 (by simp; omega)).trans HX4.out.2.1
            have hcq := cell_of_ints kq hkq
            obtain ⟨i, hi, hie⟩ := HOM.out _ (List.getElem_mem hkq)
            have hps := plusTo_succ (out := quosL of ns) hkq
            have hpl : (plusTo (quosL of ns) (orderS of ns) k).length = n := by rw [plusTo_len]; exact HQL.out
            have hbd := HPB.out k (by omega)
            rw [hie] at hcq hps
            rw [Int.toNat_natCast] at hps
            clear hie hkq kq
            have hip : i < (plusTo (quosL of ns) (orderS of ns) k).length := by omega
            rw [show (plusTo (quosL of ns) (orderS of ns) k).getD i 0 = (plusTo (quosL of ns) (orderS of ns) k)[i] from by simp [List.getD, hip]] at hps
            have hco := cell_of_ints ko hip
            have hfo := frozen_of_block ko i
            have hxb := hbd _ (List.getElem_mem hip)
            have hob := (Array.getElem?_eq_some_iff.1 ko).1
            have HY := Lib.hid (And.intro ko (And.intro hE hps))
            clear ko hE hps hpl hbd
            generalize (plusTo (quosL of ns) (orderS of ns) k)[i] = x at *
            have hltI : (k : Int) < L := by omega
            have hiI : (i : Int) < n := by omega
            go_wp2_with fail
            go_roundw
            case rel =>
              refine ⟨k + 1, by omega, by go_num, ?_, HY.out.2.1.trans (ext_set _ ⟨bo, i, none⟩ _)⟩
              rw [HY.out.2.2, ← set_ints]
              exact set_block HY.out.1 _
            case measure => simp [intOf]; omega
          · have hkL : k = L := by omega
            rw [hkL] at ko
            have hfin : plusTo (quosL of ns) (orderS of ns) L = shareL of ns := by unfold shareL; rw [HL.out, Int.toNat_natCast]
            rw [hfin] at ko
            have hsl : (shareL of ns).length = n := by rw [shareL_len, HN.out]
            have HF := Lib.hid (And.intro ko (And.intro (below_of_ext HX4.out.2.2 hE (by omega)) hsl))
            clear ko hE hfin hsl
            go_wp2_with fail
            go_returns
            refine ⟨.slice (some ⟨bo, 0, none⟩) n n, by simp, ?_, HF.out.2.1⟩
            rw [HF.out.2.2]
            exact owns_block HF.out.1 (by simp [HF.out.2.2]) (by omega) (by simp only [maxLen]; omega)
end Go.Proofs.Ytechgmnkcijahaa

namespace Go.Proofs.Ytechgmnkcijahaa
open Go.RowKit Go.RG Go.SL Go.Shelf Cou Go.TB
set_option maxHeartbeats 400000
set_option maxRecDepth 10000

def leaveW (l : LedgerD) : List Int := (shortL l.notes.length (possibleL l)).getD []
theorem leaveW_some {l : LedgerD} (h : possibleL l (upto l.notes.length) = true) : shortL l.notes.length (possibleL l) = some (leaveW l) := by
  unfold leaveW
  cases hs : shortL l.notes.length (possibleL l) with
  | some c => rfl
  | none => rw [shortL_none hs _ (inc_upto _)] at h; cases h

def LeavePost (l : LedgerD) (w : World) (e : Ending) (w' : World) : Prop :=
  Below w.heap.size w w' ∧ ((faultW l ≠ 0 ∧ e = .returned (.tuple #[.slice none 0 0, iv (faultW l)])) ∨ (faultW l = 0 ∧ ∃ v, e = .returned (.tuple #[v, iv 0]) ∧ IntsAt w' v (leaveW l)))


theorem Leave_any (l : LedgerD) (tv nv : Value) (w : World) (ht : TalliesAt w tv l.field.tallies) (hn : TriplesAt w nv l.notes) :
    Calls Try.prog 7 #[lv l tv nv] w (LeavePost l w) := by
  obtain ⟨on, cn, rfl⟩ := hn.open
  have HC := Lib.hid (checked_any l tv _ (w.alloc (.cells (lcells l tv (.slice on l.notes.length cn)) 34)) (ht.alloc _) (hn.alloc _))
  clear ht hn
  obtain ⟨q, hq⟩ : ∃ q, faultW l = q := ⟨_, rfl⟩
  have HQ := Lib.hid hq
  clear hq
  obtain ⟨nn, hnn⟩ : ∃ nn, l.notes.length = nn := ⟨_, rfl⟩
  have HNN := Lib.hid hnn
  rw [hnn] at HC ⊢
  clear hnn
  go_enter Try.func7, Try.ntmps7
  go_wp2_with fail
  refine HC.out.mono ?_
  rintro e w1 ⟨hb, ⟨hne, rfl⟩ | ⟨h0, wb, mb, v, rfl, hwb, hmb, hok⟩⟩
  · have HB := Lib.hid (And.intro (show Below w.heap.size w w1 from (by repeat (first | exact Below.refl _ _ | assumption | refine bgo ?_ (by assumption) | refine bgoAlloc ?_ _ | refine bgoDrew ?_ | refine bgoSet ?_ (by simp; omega) _))) hne)
    rw [HQ.out] at hne ⊢
    have hqb : (q != 0) = true := by simpa using hne
    clear hb hne
    go_wp2_with fail
    go_returns
    exact ⟨HB.out.1, .inl ⟨HB.out.2, by rw [HQ.out]; simp⟩⟩
  · obtain ⟨hS, hpo⟩ := faultW_sound h0
    have hsh := leaveW_some hpo
    have hn5 := hS.many
    rw [HNN.out] at hsh hn5
    have hk1 := (hb.block w.heap.size (by simp)).trans (heap_new0 w (.cells (lcells l tv (.slice on nn cn)) 34))
    have hmw : w.heap.size < mb := by simp at hmb; omega
    have HCALL := Lib.hid (shortest_anyG nn (by omega) (possibleL l) [mb] (fun W => ∃ T, TabAt spv rv (fun _ => True) W mb T) ⟨fun a b ⟨T, hT⟩ hk => ⟨T, hT.kept (hk mb (by simp))⟩, fun W hW m hm o => by
      obtain rfl : m = mb := by simpa using hm
      obtain ⟨T, hT⟩ := hW
      exact hT.noCell o⟩ w1 hok.tab (fun m hm => by obtain rfl : m = mb := (by simpa using hm); exact hok.lt) 30 #[.pointer (some ⟨wb, 0, none⟩)] #[]
      (enters_of Try.func30 (by kernel_rfl) rfl) (fun x u W' _ hE hW hv => by
        refine (possible_any hS x (show LwOk W' wb mb l tv (.slice on nn cn) v from ⟨hok.work.table hE hok.noCell, hW⟩) hv).mono ?_
        rintro e W2 ⟨rfl, hkn, hE2⟩
        exact ⟨rfl, hkn.ok.tab, hE2⟩))
    have HB := Lib.hid (And.intro (show Below w.heap.size w w1 from (by repeat (first | exact Below.refl _ _ | assumption | refine bgo ?_ (by assumption) | refine bgoAlloc ?_ _ | refine bgoDrew ?_ | refine bgoSet ?_ (by simp; omega) _))) (And.intro h0 (And.intro hsh hmw)))
    obtain ⟨c1, f1, l1⟩ := cells_of_block hk1
    clear hb hok h0 hS hpo hsh hk1 hwb hmb hmw
    go_wp2_with fail
    refine HCALL.out.mono ?_
    rintro e w2 ⟨⟨_, hE⟩, ⟨cx, u, hcx, rfl, hiv⟩ | ⟨hno, _⟩⟩
    · have hres : cx = leaveW l := by rw [HB.out.2.2.1] at hcx; injection hcx with h; exact h.symm
      obtain ⟨uo, uc, rfl⟩ := hiv.open
      have HX := Lib.hid (And.intro (below_of_ext HB.out.1 hE (by have := HB.out.2.2.2; omega)) (And.intro hres hiv))
      clear hE hcx hiv hres c1 f1 l1
      go_wp2_with fail
      go_returns
      exact ⟨HX.out.1, .inr ⟨HB.out.2.1, _, by simp; rfl, by rw [← HX.out.2.1]; exact HX.out.2.2⟩⟩
    · rw [HB.out.2.2.1] at hno; cases hno

/-! ### First -/
def laterL (n k : Nat) : List Int := (upto n).drop k
def firstW (l : LedgerD) : Option Nat := (List.range l.notes.length).find? fun i => !possibleL l (laterL l.notes.length (i + 1))
def firstWv (l : LedgerD) : Int := optV (firstW l)
def firstWe (l : LedgerD) : Int := optE (firstW l)

theorem SlAt.drop {w : World} {o : Option Addr} {n c i : Nat} {xs : List Value} (h : SlAt 1 w (.slice o n c) n xs) (hi : i ≤ n) : ∀ a, o = some a → SlAt 1 w (.slice (some ⟨a.block, a.off + i, none⟩) (n - i) (c - i)) (n - i) (xs.drop i) := by
  obtain ⟨hl, o', c', e, h1, h2, h3, h4⟩ := h
  cases e
  intro a ha
  obtain ⟨hs, hc⟩ := h4 a ha
  refine ⟨by simp [hl], _, _, rfl, by omega, by omega, fun h => (by cases h), fun b hb => ?_⟩
  cases hb
  refine ⟨rfl, fun j u hj => ?_⟩
  rw [List.getElem?_drop] at hj
  have := hc (i + j) u hj
  rw [show a.off + i + j = a.off + (i + j) from by omega]
  exact this

theorem firstW_at {l : LedgerD} {k : Nat} (hk : k < l.notes.length) (h1 : ∀ j, j < k → possibleL l (laterL l.notes.length (j + 1)) = true) (h2 : possibleL l (laterL l.notes.length (k + 1)) = false) : firstW l = some k := by
  unfold firstW
  rw [List.find?_eq_some_iff_getElem]
  refine ⟨by simp [h2], k, by simpa using hk, by simp, fun j hj => ?_⟩
  simp [h1 j hj]
theorem firstW_no {l : LedgerD} (h1 : ∀ j, j < l.notes.length → possibleL l (laterL l.notes.length (j + 1)) = true) : firstW l = none := by
  unfold firstW
  rw [List.find?_eq_none]
  intro j hj
  simp [h1 j (List.mem_range.1 hj)]

def FirstPost (l : LedgerD) (w : World) (e : Ending) (w' : World) : Prop :=
  Below w.heap.size w w' ∧ ((faultW l ≠ 0 ∧ e = .returned (.tuple #[iv 0, iv (faultW l)])) ∨ (faultW l = 0 ∧ e = .returned (.tuple #[iv (firstWv l), iv (firstWe l)])))

set_option maxHeartbeats 4000000 in
theorem First_any (l : LedgerD) (tv nv : Value) (w : World) (ht : TalliesAt w tv l.field.tallies) (hn : TriplesAt w nv l.notes) :
    Calls Try.prog 16 #[lv l tv nv] w (FirstPost l w) := by
  obtain ⟨on, cn, rfl⟩ := hn.open
  have HC := Lib.hid (checked_any l tv _ (w.alloc (.cells (lcells l tv (.slice on l.notes.length cn)) 34)) (ht.alloc _) (hn.alloc _))
  clear ht hn
  obtain ⟨q, hq⟩ : ∃ q, faultW l = q := ⟨_, rfl⟩
  have HQ := Lib.hid hq
  clear hq
  obtain ⟨nn, hnn⟩ : ∃ nn, l.notes.length = nn := ⟨_, rfl⟩
  have HNN := Lib.hid hnn
  rw [hnn] at HC ⊢
  clear hnn
  go_enter Try.func16, Try.ntmps16
  go_wp2_with fail
  refine HC.out.mono ?_
  rintro e w1 ⟨hb, ⟨hne, rfl⟩ | ⟨h0, wb, mb, v, rfl, hwb, hmb, hok⟩⟩
  · have HB := Lib.hid (And.intro (show Below w.heap.size w w1 from (by repeat (first | exact Below.refl _ _ | assumption | refine bgo ?_ (by assumption) | refine bgoAlloc ?_ _ | refine bgoDrew ?_ | refine bgoSet ?_ (by simp; omega) _))) hne)
    rw [HQ.out] at hne ⊢
    have hqb : (q != 0) = true := by simpa using hne
    clear hb hne
    go_wp2_with fail
    go_returns
    exact ⟨HB.out.1, .inl ⟨HB.out.2, by rw [HQ.out]; simp⟩⟩
  obtain ⟨hS, hpo⟩ := faultW_sound h0
  have hn5 := hS.many
  rw [HNN.out] at hn5
  have hk1 := (hb.block w.heap.size (by simp)).trans (heap_new0 w (.cells (lcells l tv (.slice on nn cn)) 34))
  have hmw : w.heap.size < mb := by simp at hmb; omega
  have HB := Lib.hid (And.intro (show Below w.heap.size w w1 from (by repeat (first | exact Below.refl _ _ | assumption | refine bgo ?_ (by assumption) | refine bgoAlloc ?_ _ | refine bgoDrew ?_ | refine bgoSet ?_ (by simp; omega) _))) (And.intro h0 (And.intro hk1 hok)))
  have HS := Lib.hid hS
  obtain ⟨c1, f1, l1⟩ := cells_of_block hk1
  clear hb hok h0 hS hpo hk1 hwb hmb
  go_wp2_with fail
  clear c1 f1
  go_loopw [6, 20] (fun v6 u wr => ∃ k : Nat, k ≤ nn ∧ u = .int .i64 k ∧ (∃ oo oc, v6 = .slice oo k oc ∧ wr.ownsRow w1.heap.size 3 1 (.slice oo k oc) k (intCells (upto k))) ∧ Below w1.heap.size w1 wr) (fun _ u _ => nn - (intOf u).toNat)
  case atStart => exact ⟨0, Nat.zero_le _, rfl, ⟨none, 0, rfl, ⟨rfl, .inl ⟨rfl, rfl⟩⟩⟩, Below.refl _ _⟩
  case round =>
    obtain ⟨k, hk, rfl, ⟨oo, oc, rfl, how⟩, hB⟩ := hrel
    by_cases hlt : k < nn
    · have hltI : (k : Int) < nn := by omega
      have HX := Lib.hid (And.intro how hB)
      have hsz := hB.size
      clear how hB
      go_wp2_with (at_builtin; refine wpList_append_at rfl _ _ tInts rfl w1.heap.size (.slice oo k oc) k (intCells (upto k)) rfl ?_ (.slice (some ⟨wr.heap.size, 0, none⟩) 1 1) 1 (intCells [(k : Int)]) rfl ?_ (one_ints _) (by omega) (by omega) (by simp; omega) ?_)
      · exact owns_ext (Ms := []) HX.out.1 (Ext.of_below ((Below.refl _ _).alloc (Nat.le_refl _) _)) (by simp)
      · exact SlAt.of_block 1 1 (heap_new0 _ _) rfl (by decide)
      · intro v' Wc hown hgr hcase
        obtain ⟨oo3, oc3, rfl⟩ := owns_slice hown
        have hup : intCells (upto k) ++ intCells [(k : Int)] = intCells (upto (k + 1)) := by
          rw [show upto (k + 1) = upto k ++ [(k : Int)] from by simp [upto, List.range_succ], ← intCells_app]
        rw [hup] at hown
        have hwB : Below wr.heap.size wr (wr.alloc (.cells #[iv k] 3)) := bgoAlloc (Below.refl _ _) _
        have HY := Lib.hid (And.intro hown (Below.grown (bgo HX.out.2 hwB) hgr (by have := hwB.size; omega) (fun g e => (owns_ge HX.out.1 g e).1)))
        clear hown hgr hcase hup hwB hsz
        go_wp2_with fail
        go_roundw
        case rel => exact ⟨k + 1, by omega, by go_num, ⟨oo3, oc3, rfl, HY.out.1⟩, HY.out.2⟩
        case measure => simp [intOf]; omega
    · have hkn : k = nn := by omega
      rw [hkn] at how ⊢
      clear hkn hk hlt
      have hk2 := (hB.block _ l1).trans HB.out.2.2.1
      obtain ⟨c2, f2, l2⟩ := cells_of_block hk2
      have hok2 : LwOk wr wb mb l tv (.slice on nn cn) v := HB.out.2.2.2.below hB (Nat.le_refl _)
      have hlat : IntsAt wr (.slice oo nn oc) (upto nn) := by have := SlAt.of_owns how; unfold IntsAt; rw [show (upto nn).length = nn from by simp [upto]]; exact this
      have hnm : (Value.slice oo nn oc).ownBlock ≠ some mb := fun e => by
        have h1 := owns_ge how mb e
        have := HB.out.2.2.2.lt
        omega
      have HY := Lib.hid (And.intro hk2 (And.intro hok2 (And.intro hlat (And.intro hnm (bgo HB.out.1 hB)))))
      have hoc : 0 < nn → ∃ g, oo = some ⟨g, 0, none⟩ ∧ nn ≤ oc ∧ oc ≤ maxLen := fun h => by
        obtain ⟨_, ⟨h2, h3⟩ | ⟨g', cap, cur, h2, _, _, h5, h6, _⟩⟩ := how
        · omega
        · cases h2; exact ⟨g', rfl, by omega, by omega⟩
      clear how hB hk2 hok2 hlat hnm
      go_wp2_with fail
      clear c2 f2
      go_loopw [31] (fun u wq => ∃ k : Nat, k ≤ nn ∧ u = .int .i64 k ∧ (∀ j, j < k → possibleL l (laterL nn (j + 1)) = true) ∧ LwOk wq wb mb l tv (.slice on nn cn) v ∧ Ext [mb] wr wq) (fun u _ => nn - (intOf u).toNat)
      case atStart => exact ⟨0, Nat.zero_le _, rfl, fun j hj => by omega, HY.out.2.1, Ext.refl _ _⟩
      case round =>
        obtain ⟨k, hk, rfl, hno, hok3, hE⟩ := hrel
        have hk3 := (hE.block w.heap.size l2 (by simp; omega)).trans HY.out.1
        by_cases hlt : k < nn
        · obtain ⟨g, rfl, ho1, ho2⟩ := hoc (by omega)
          have hltI : (k : Int) < nn := by omega
          have hk1I : (k : Int) + 1 ≤ nn := by omega
          have HZ := Lib.hid (And.intro hno (And.intro hok3 hE))
          have hlx : IntsAt wr (.slice (some ⟨g, 0, none⟩) nn oc) (upto nn) := HY.out.2.2.1.ext hE (fun x hx e => by obtain rfl : x = mb := (by simpa using hx); exact HY.out.2.2.2.1 e)
          have hsub := SlAt.drop (i := k + 1) (show SlAt 1 wr (.slice (some ⟨g, 0, none⟩) nn oc) nn (intCells (upto nn)) from by have := hlx; unfold IntsAt at this; rw [show (upto nn).length = nn from by simp [upto]] at this; exact this) (by omega) _ rfl
          simp only [Nat.zero_add] at hsub
          have hiv : IntsAt wr (.slice (some ⟨g, k + 1, none⟩) (nn - (k + 1)) (oc - (k + 1))) (laterL nn (k + 1)) := by
            unfold IntsAt laterL
            rw [List.length_drop, show (upto nn).length = nn from by simp [upto]]
            rw [show intCells ((upto nn).drop (k + 1)) = (intCells (upto nn)).drop (k + 1) from by simp [intCells]]
            exact hsub
          have HPO := Lib.hid (possible_any HS.out (laterL nn (k + 1)) hok3 hiv)
          have HPE := Lib.hid (fun (h : oc = k + 1) => possible_any HS.out (laterL nn (k + 1)) hok3 (show IntsAt wr (.slice (some ⟨g, 0, none⟩) (nn - oc) 0) (laterL nn (k + 1)) from by
            rw [h]
            have hnk : nn = k + 1 := by omega
            unfold IntsAt laterL
            rw [List.length_drop, show (upto nn).length = nn from by simp [upto], hnk, Nat.sub_self]
            rw [show intCells ((upto (k + 1)).drop (k + 1)) = [] from by simp [intCells, upto]]
            exact ⟨by simp, _, _, rfl, Nat.le_refl _, by simp [maxLen], fun h => (by cases h), fun a ha => by cases ha; exact ⟨rfl, fun j u hj => by simp at hj⟩⟩))
          obtain ⟨r, hr⟩ : ∃ r, possibleL l (laterL nn (k + 1)) = r := ⟨_, rfl⟩
          rw [hr] at HPO HPE
          have HR := Lib.hid hr
          have HZI := Lib.hid (show r = true → ∀ j, j < k + 1 → possibleL l (laterL nn (j + 1)) = true from fun h j hj => by
            by_cases e : j = k
            · rw [e, hr]; exact h
            · exact HZ.out.1 j (by omega))
          have HZF := Lib.hid (show r = false → firstW l = some k from fun h => firstW_at (by rw [HNN.out]; exact hlt) (by rw [HNN.out]; exact HZ.out.1) (by rw [HNN.out, hr]; exact h))
          have HZE := Lib.hid HZ.out.2.2
          clear hno hok3 hE hlx hsub hiv hr HZ hk3
          go_wp2_with fail
          · rename_i h
            rw [← h]
            have HO := Lib.hid h
            clear h
            refine (HPE.out HO.out).mono ?_
            rintro e w2 ⟨rfl, hkn, hE⟩
            have HU := Lib.hid (And.intro hkn.ok (HZE.out.trans hE))
            clear hkn hE
            cases r
            · go_wp2_with fail
              go_returns
              exact ⟨below_of_ext HY.out.2.2.2.2 HU.out.2 (by omega), .inr ⟨HB.out.2.1, by unfold firstWv firstWe; rw [HZF.out (by simp)]; simp [optV, optE]⟩⟩
            · go_wp2_with fail
              go_roundw
              case rel => exact ⟨k + 1, by omega, by go_num, HZI.out (by simp), HU.out.1, HU.out.2⟩
              case measure => simp [intOf]; omega
          · skip
            refine HPO.out.mono ?_
            rintro e w2 ⟨rfl, hkn, hE⟩
            have HU := Lib.hid (And.intro hkn.ok (HZE.out.trans hE))
            clear hkn hE
            cases r
            · go_wp2_with fail
              go_returns
              exact ⟨below_of_ext HY.out.2.2.2.2 HU.out.2 (by omega), .inr ⟨HB.out.2.1, by unfold firstWv firstWe; rw [HZF.out (by simp)]; simp [optV, optE]⟩⟩
            · go_wp2_with fail
              go_roundw
              case rel => exact ⟨k + 1, by omega, by go_num, HZI.out (by simp), HU.out.1, HU.out.2⟩
              case measure => simp [intOf]; omega
        · have hkn : k = nn := by omega
          rw [hkn] at hno
          have hfn : firstW l = none := firstW_no (by rw [HNN.out]; exact hno)
          have HF := Lib.hid (And.intro (below_of_ext HY.out.2.2.2.2 hE (by omega)) hfn)
          clear hno hok3 hE hfn hk3 hkn
          go_wp2_with fail
          go_returns
          exact ⟨HF.out.1, .inr ⟨HB.out.2.1, by unfold firstWv firstWe; rw [HF.out.2]; simp [optV, optE]⟩⟩
end Go.Proofs.Ytechgmnkcijahaa

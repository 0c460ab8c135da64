/-
  Contract of the law's Looked.
-/
import Derived.WalkKit
import Derived.WalkLawsBesides
import Derived.WalkSpells
import Derived.Outline
import Derived.Handy
import Derived.KernelRfl
import Derived.Lib.Hide
import Derived.Test.YtoibfafmnaooaaaSH
namespace Go.Proofs.Ytoibfafmnaooaaa
open Go.RowKit Go.RG Go.SL Go.Shelf Cou
set_option maxHeartbeats 400000
set_option maxRecDepth 10000

theorem owns_neL {W : World} {base s n b : Nat} {e t : TypeId} {v : Value} {xs : List Value} {cs : Array Value} (h : W.ownsRow base e s v n xs) (hb : W.heap[b]? = some (.cells cs t (0, 0))) (hne : e ≠ t) : v.ownBlock ≠ some b := by
  intro hv
  obtain ⟨_, ⟨rfl, _⟩ | ⟨g, c, cur, rfl, _, hg, _⟩⟩ := h
  · cases hv
  · have : g = b := by simpa [Value.ownBlock] using hv
    subst this
    rw [hg] at hb
    simp only [Option.some.injEq, Obj.cells.injEq] at hb
    exact hne hb.2.1

theorem ext_ten {W : World} {b : Nat} (y0 y1 y2 y3 y4 y5 y6 y7 y8 y9 : Value) :
    Ext [b] W ((((((((((W.setCell ⟨b, 0, none⟩ y0).setCell ⟨b, 1, none⟩ y1).setCell ⟨b, 2, none⟩ y2).setCell ⟨b, 3, none⟩ y3).setCell ⟨b, 4, none⟩ y4).setCell ⟨b, 5, none⟩ y5).setCell ⟨b, 6, none⟩ y6).setCell ⟨b, 7, none⟩ y7).setCell ⟨b, 8, none⟩ y8).setCell ⟨b, 9, none⟩ y9) :=
  (((((((((ext_set W ⟨b, 0, none⟩ y0).trans (ext_set _ ⟨b, 1, none⟩ y1)).trans (ext_set _ ⟨b, 2, none⟩ y2)).trans (ext_set _ ⟨b, 3, none⟩ y3)).trans (ext_set _ ⟨b, 4, none⟩ y4)).trans (ext_set _ ⟨b, 5, none⟩ y5)).trans (ext_set _ ⟨b, 6, none⟩ y6)).trans (ext_set _ ⟨b, 7, none⟩ y7)).trans (ext_set _ ⟨b, 8, none⟩ y8)).trans (ext_set _ ⟨b, 9, none⟩ y9)

/-- A reading that Looked makes. -/
def Good (h : HeapD) (t : Int × List Int) (x : Rdg) : Prop := ((0 ≤ x.1 ∧ x.1 ≤ h.last) ∧ (0 ≤ x.2.1 ∧ x.2.1 ≤ 1000) ∧ (0 ≤ x.2.2 ∧ x.2.2 ≤ 50)) ∧ rightR x (heats h t h.turns) = true
/-- What Looked returns. -/
def PLooked (h : HeapD) (wv tv : Value) (t : Int × List Int) (w : World) (e : Ending) (w' : World) : Prop := ∃ R o c u, e = .returned (.tuple #[hv { h with readings := R } wv tv (.slice o R.length c), .agg #[iv t.1, u]]) ∧ TriplesAt w' (.slice o R.length c) R ∧ IntsAt w' u t.2 ∧ R.length ≤ 5 ∧ (∀ x ∈ R, Good h t x) ∧ Below w.heap.size w w'

set_option maxHeartbeats 4000000 in
theorem Looked_any (h : HeapD) (hS : Sound h) (ow ot ox : Option Addr) (cw ct cx : Nat) (wdv : Value) (wh : Nat) (words : List (Fin 65536)) (w : World) (hw : PairsAt w (.slice ow h.wet.length cw) h.wet) (ht : IntsAt w (.slice ot h.turns.length ct) h.turns) (hwd : WordsAt w wdv words) (hwh : (wh : Int) ≤ 65535) :
    Calls Try.prog 59 #[hv h (.slice ow h.wet.length cw) (.slice ot h.turns.length ct) (.slice ox h.readings.length cx), .int .u16 wh, wdv] w (PLooked h (.slice ow h.wet.length cw) (.slice ot h.turns.length ct) (nthT h ((wh : Int) % manyL h)) w) := by
  obtain ⟨owd, cwd, rfl⟩ := hwd.open
  have HW := Lib.hid hw
  have HT := Lib.hid ht
  have HWD := Lib.hid hwd
  have hl0 := hS.last0
  have hl9 := hS.last9
  have HS := Lib.hid hS
  have hw10 : h.wet.length ≤ 10 := by have := hS.wetLen; omega
  obtain ⟨_, hM1, hM2⟩ := manyL_sound hS
  obtain ⟨M, hM⟩ : ∃ M, manyL h = M := ⟨_, rfl⟩
  have HM := Lib.hid hM
  rw [hM] at hM1 hM2 ⊢
  have hMz : ¬ M = 0 := by omega
  obtain ⟨n, hn⟩ : ∃ n, (wh : Int) % M = n := ⟨_, rfl⟩
  have hn0 : 0 ≤ n := by rw [← hn]; exact Int.emod_nonneg _ (by omega)
  have hn1 : n ≤ 2000 := by have := Int.emod_lt_of_pos (wh : Int) (show 0 < M by omega); omega
  obtain ⟨t, htt⟩ : ∃ t, nthT h n = t := ⟨_, rfl⟩
  have hlt : listedT h t = true := by rw [← htt]; exact nthT_listed hS n
  have HT0 := Lib.hid htt
  have HLT := Lib.hid hlt
  rw [hn, htt]
  have hHO := Lib.hid (heatOk_of hS hlt)
  have htl := (listed_of hS hlt).1
  have htl2 : (h.last + 1).toNat ≤ t.2.length := by have := hS.wetLen; omega
  have HTL := Lib.hid htl
  obtain ⟨q0, hq0⟩ : ∃ q, wordV words 0 = q := ⟨_, rfl⟩
  have hq0b := wordV_bd words 0
  rw [hq0] at hq0b
  have HQ0 := Lib.hid hq0
  obtain ⟨N, hN⟩ : ∃ N : Nat, q0 % 6 = N := Int.eq_ofNat_of_zero_le (by omega)
  have hN5 : N ≤ 5 := by omega
  clear hw ht hwd hS hM htt hlt htl hq0
  go_enter Try.func59, Try.ntmps59
  go_wp2_with fail
  refine gworld fun W1 hW1 => ?_
  have HB1 := Lib.hid (show Below w.heap.size w W1 from by rw [hW1]; exact (by repeat (first | exact Below.refl _ _ | assumption | refine bgo ?_ (by assumption) | refine bgoAlloc ?_ _ | refine bgoDrew ?_ | refine bgoSet ?_ (by simp; omega) _)))
  have HA1 := Lib.hid (show W1.heap[w.heap.size]? = some (.cells #[.int .i64 h.last, .int .i64 h.size, .int .i64 h.cool, .int .i64 h.die, .int .i64 h.burn, .int .i64 h.start.1, .int .i64 h.start.2, .slice ow h.wet.length cw, .slice ot h.turns.length ct, .slice ox h.readings.length cx] 28 (0, 0)) from by rw [hW1]; exact (Below.heap_alloc _ _ _ (by first | omega | (simp; done) | (simp; omega))).trans ((Below.heap_alloc _ _ _ (by first | omega | (simp; done) | (simp; omega))).trans (heap_new0 _ _)))
  have HR1 := Lib.hid (show W1.heap[w.heap.size + 1]? = some (.cells #[iv 0, iv 0, iv 0, iv 0, iv 0, iv 0, iv 0, .slice none 0 0, .slice none 0 0, .slice none 0 0] 28 (0, 0)) from by rw [hW1]; exact (Below.heap_alloc _ _ _ (by first | omega | (simp; done) | (simp; omega))).trans (heap_new1 _ _ _))
  have HZ1 := Lib.hid (show W1.heap[w.heap.size + 1 + 1]? = some (.cells #[iv 0, .slice none 0 0] 66 (0, 0)) from by rw [hW1]; exact heap_new2 _ _ _ _)
  clear hW1
  obtain ⟨hcr, _, hs1⟩ := cells_of_block HA1.out
  have hs2 := (cells_of_block HZ1.out).2.2
  refine wp_region_rg 8 [] none [(4, Spec.val (iv M)), (6, ⟨fun _ v => ∃ o c, v = .agg #[iv t.1, .slice o t.2.length c], fun _ v Wx => ∃ o c, v = .agg #[iv t.1, .slice o t.2.length c] ∧ Wx.ownsRow W1.heap.size 3 1 (.slice o t.2.length c) t.2.length (intCells t.2)⟩), (7, Spec.block W1.heap.size #[iv 0, .slice none 0 0] 66)] (by kernel_rfl) (by kernel_rfl) ?_
  simp only [List.take_succ_cons, List.take_zero, List.drop_succ_cons, List.drop_zero]
  repeat (first | (refine tree_det (by rfl) _ (by rfl) (fun W hW => by go_simp; (try simp (disch := omega) only [IntWalk.i64_in]); try rfl) ?_; simp only [Act.put, List.setIfInBounds_toArray, List.set_cons_succ, List.set_cons_zero]) | (refine tree_skip (by rfl) (by rfl) ?_; simp only [Act.put, List.setIfInBounds_toArray, List.set_cons_succ, List.set_cons_zero]))
  refine tree_val _ (by rfl) (by rfl) 39 _ (fun W hW => by go_simp; try rfl) (fun W hE hF => by exact by have := Many_any h (.slice ow h.wet.length cw) (.slice ot h.turns.length ct) (.slice ox h.readings.length cx) W ((HW.out.below HB1.out (Nat.le_refl _)).below (Ext.below (show Ext [] W1 W from hE)) (Nat.le_refl _)) HS.out.ranges; rw [HM.out] at this; exact this) ?_
  simp only [Act.put, List.setIfInBounds_toArray, List.set_cons_succ, List.set_cons_zero]
  repeat (first | (refine tree_det (by rfl) _ (by rfl) (fun W hW => by go_simp; (try simp (disch := omega) only [Int.tmod_eq_emod_of_nonneg]); try rfl) ?_; simp only [Act.put, List.setIfInBounds_toArray, List.set_cons_succ, List.set_cons_zero]) | (refine tree_skip (by rfl) (by rfl) ?_; simp only [Act.put, List.setIfInBounds_toArray, List.set_cons_succ, List.set_cons_zero]))
  refine tree_some _ (by rfl) (by rfl) (by exact ⟨_, none, 0, rfl⟩) (fun W hE hF => ?_) (fun v Wa Wb ho hE => ?_) (fun v hv => ?_)
  · have hE' : Ext [] W1 W := hE
    refine does_enter 38 #[hv h (.slice ow h.wet.length cw) (.slice ot h.turns.length ct) (.slice ox h.readings.length cx), iv ((wh : Int) % M)] (by go_simp; try rfl) ?_
    rw [hn]
    refine (Nth_any h _ ot ox h.turns.length ct h.readings.length cx n W ((HW.out.below HB1.out (Nat.le_refl _)).below hE'.below (Nat.le_refl _)) HS.out.ranges hn0 (by omega) (by omega)).mono ?_
    rw [HT0.out]
    rintro e W6 ⟨v, rfl, ho, hb⟩
    obtain ⟨o, c, rfl⟩ := owns_slice ho
    exact ⟨_, rfl, ⟨o, c, rfl⟩, ⟨o, c, rfl, owns_base ho hE'.size⟩, Ext.of_below hb⟩
  · obtain ⟨o, c, hv, h1⟩ := ho
    exact ⟨o, c, hv, owns_ext (Ms := []) h1 hE (by simp)⟩
  obtain ⟨ou, cu, rfl⟩ := hv
  simp only [Act.put, List.setIfInBounds_toArray, List.set_cons_succ, List.set_cons_zero]
  refine tree_block W1.heap.size _ _ (by rfl) (Nat.le_refl _) (by rfl) (by simp) (by simp) (fun W hW => by go_simp; try rfl) (fun bt => ?_)
  simp only [Act.put, List.setIfInBounds_toArray, List.set_cons_succ, List.set_cons_zero]
  intro W2 hE hF
  obtain ⟨b5', hb5, hbB, hblk⟩ := hF _ (List.Mem.head _)
  cases hb5
  obtain ⟨o', c', he, hvt⟩ := hF _ (List.Mem.tail _ (List.Mem.head _))
  cases he
  have hE2 : Ext [] W1 W2 := hE
  have HE2 := Lib.hid hE2
  have hz2 := hE2.size
  clear hcr
  obtain ⟨hcr, _, hsr⟩ := cells_of_block ((hE2.block _ hs1 (by simp)).trans HA1.out)
  obtain ⟨hc5, _, hs5⟩ := cells_of_block hblk
  have HBLK := Lib.hid hblk
  have HVT := Lib.hid hvt
  have hnt := owns_neL hvt hblk (by decide)
  clear hE hF hblk hvt hE2
  have hne1 : w.heap.size ≠ bt := by omega
  have hne2 : bt ≠ w.heap.size := by omega
  go_wp2_with fail
  refine gworld fun W4 hW4 => ?_
  have HB4 := Lib.hid (show Below w.heap.size w W4 from by rw [hW4]; exact bgoAlloc (bgoSet (bgoSet (bgo HB1.out HE2.out.below) (by show w.heap.size ≤ bt; omega) _) (by show w.heap.size ≤ bt; omega) _) _)
  have hK : ∀ b, b < W1.heap.size → W4.heap[b]? = W1.heap[b]? := fun b hb => by
    rw [hW4]
    exact (Below.heap_alloc _ _ _ (by simp only [World.size_setCell]; omega)).trans ((Below.heap_setCell _ _ _ _ (by show b ≠ bt; omega)).trans ((Below.heap_setCell _ _ _ _ (by show b ≠ bt; omega)).trans (HE2.out.block _ hb (by simp))))
  have HA4 := Lib.hid ((hK _ hs1).trans HA1.out)
  have HR4 := Lib.hid ((hK _ (by omega)).trans HR1.out)
  have HZ4 := Lib.hid ((hK _ hs2).trans HZ1.out)
  have HTB4 := Lib.hid (show W4.heap[bt]? = some (.cells #[iv t.1, .slice ou t.2.length cu] 66 (0, 0)) from by
    rw [hW4]
    exact (Below.heap_alloc _ _ _ (by simp only [World.size_setCell]; exact hs5)).trans (set_block (set_block HBLK.out _) _))
  have HXB4 := Lib.hid (show W4.heap[W2.heap.size]? = some (.cells #[iv h.last, iv h.size, iv h.cool, iv h.die, iv h.burn, iv h.start.1, iv h.start.2, .slice ow h.wet.length cw, .slice ot h.turns.length ct, .slice none 0 0] 28 (0, 0)) from by
    rw [hW4]
    have := heap_new0 ((W2.setCell ⟨bt, 0, none⟩ (iv t.1)).setCell ⟨bt, 1, none⟩ (.slice ou t.2.length cu)) (.cells #[iv h.last, iv h.size, iv h.cool, iv h.die, iv h.burn, iv h.start.1, iv h.start.2, .slice ow h.wet.length cw, .slice ot h.turns.length ct, .slice none 0 0] 28)
    simpa only [World.size_setCell] using this)
  have HVI4 : Hid (IntsAt W4 (.slice ou t.2.length cu) t.2) := Lib.hid (by
    rw [hW4]
    exact SlAt.alloc (SlAt.of_owns (owns_ext' (owns_ext' HVT.out (ext_set _ _ _) (by simpa using hnt)) (ext_set _ _ _) (by simpa using hnt))) _)
  have hz4 : W4.heap.size = W2.heap.size + 1 := by rw [hW4]; simp
  have hz4a : W2.heap.size < W4.heap.size := by omega
  have hz4b : bt < W2.heap.size := hs5
  have hz4c : w.heap.size + 1 + 1 < bt := by omega
  have HOU : Hid (∀ b, (Value.slice ou t.2.length cu).ownBlock = some b → b < W2.heap.size ∧ w.heap.size + 1 + 1 < b) := Lib.hid (fun b e => ⟨(owns_ge HVT.out b e).2, by have := (owns_ge HVT.out b e).1; omega⟩)
  clear hW4 hc5 hs5 HBLK HVT hnt hK hcr hsr HA1 HR1 HZ1 HE2 hne1 hne2 hz4 hz2 hbB hs1 hs2 HB1 hn
  go_loopw [10] (fun u wr => ∃ i : Nat, i ≤ N ∧ u = .int .i64 i ∧ ∃ (R : List Rdg) (oo : Option Addr) (oc : Nat), R.length ≤ i ∧ (∀ x ∈ R, Good h t x) ∧ wr.heap[W2.heap.size]? = some (.cells #[iv h.last, iv h.size, iv h.cool, iv h.die, iv h.burn, iv h.start.1, iv h.start.2, .slice ow h.wet.length cw, .slice ot h.turns.length ct, .slice oo R.length oc] 28 (0, 0)) ∧
      wr.ownsRow W4.heap.size 79 3 (.slice oo R.length oc) R.length (tripleCells R) ∧ Below w.heap.size w wr ∧ W4.heap.size ≤ wr.heap.size ∧ ∀ c, c < W4.heap.size → c ≠ W2.heap.size → wr.heap[c]? = W4.heap[c]?) (fun u _ => N - (intOf u).toNat)
  case atStart => exact ⟨0, Nat.zero_le _, rfl, [], none, 0, Nat.le_refl _, (fun x hx => by cases hx), HXB4.out, ⟨rfl, .inl ⟨rfl, rfl⟩⟩, HB4.out, Nat.le_refl _, fun _ _ _ => rfl⟩
  case round =>
    obtain ⟨i, hi, rfl, R, oo, oc, hRi, hRG, hblk, hown, hB, hsw, hkeep⟩ := hrel
    have HKP := Lib.hid hkeep
    have HBL := Lib.hid hblk
    have HOW := Lib.hid hown
    have HB := Lib.hid hB
    have HRG := Lib.hid hRG
    have hA := (hkeep w.heap.size (by omega) (by omega)).trans HA4.out
    have hTB := (hkeep bt (by omega) (by omega)).trans HTB4.out
    have HAR := Lib.hid hA
    have HTR := Lib.hid hTB
    have HVR := Lib.hid (show IntsAt wr (.slice ou t.2.length cu) t.2 from SlAt.kept HVI4.out (fun b off n c hv hlt => by
      injection hv with e1
      have := HOU.out b (by rw [e1]; rfl)
      exact HKP.out b (by omega) (by omega)))
    have hq1b := wordV_bd words ((i : Int) + 1)
    obtain ⟨wv, hwv⟩ : ∃ q, wordV words ((i : Int) + 1) = q := ⟨_, rfl⟩
    rw [hwv] at hq1b
    have HWV := Lib.hid hwv
    clear hkeep hblk hown hB hRG hwv hA hTB
    by_cases hlt : i < N
    case neg =>
      obtain rfl : i = N := by omega
      go_wp2_with fail
      refine (word_any words _ 0 wr (HWD.out.below HB.out (Nat.le_refl _)) (by omega)).mono ?_
      rw [HQ0.out]
      rintro e Wa ⟨rfl, hba⟩
      have HDa := Lib.hid hba
      obtain ⟨hcx, _, hsx⟩ := cells_of_block ((hba.block _ (cells_of_block HBL.out).2.2).trans HBL.out)
      obtain ⟨hct, _, hst⟩ := cells_of_block ((hba.block _ (cells_of_block HTR.out).2.2).trans HTR.out)
      have hrr := (hba.block _ (show w.heap.size + 1 < wr.heap.size by omega)).trans ((HKP.out (w.heap.size + 1) (by omega) (by omega)).trans HR4.out)
      have hzz := (hba.block _ (show w.heap.size + 1 + 1 < wr.heap.size by omega)).trans ((HKP.out (w.heap.size + 1 + 1) (by omega) (by omega)).trans HZ4.out)
      have HRR := Lib.hid hrr
      have HZZ := Lib.hid hzz
      have hsR := (cells_of_block hrr).2.2
      have hsZ := (cells_of_block hzz).2.2
      have HBa := Lib.hid (bgo HB.out hba)
      have hnx1 : W2.heap.size ≠ w.heap.size + 1 := by omega
      have hnx2 : bt ≠ w.heap.size + 1 := by omega
      have hnx3 : w.heap.size + 1 ≠ W2.heap.size := by omega
      have hnx4 : w.heap.size + 1 ≠ bt := by omega
      clear hba hrr hzz
      go_wp2_with fail
      refine wp_region_rg 3 [w.heap.size + 1] (some 2) [(2, ⟨fun _ v => v = undef, fun _ _ Wx => Wx.heap[w.heap.size + 1]? = some (.cells #[iv h.last, iv h.size, iv h.cool, iv h.die, iv h.burn, iv h.start.1, iv h.start.2, .slice ow h.wet.length cw, .slice ot h.turns.length ct, .slice oo R.length oc] 28 (0, 0))⟩)] (by kernel_rfl) (by kernel_rfl) ?_
      simp only [List.take_succ_cons, List.take_zero, List.drop_succ_cons, List.drop_zero]
      repeat (first | (refine tree_det (by rfl) _ (by rfl) (fun W hW => by go_simp; try rfl) ?_; simp only [Act.put, List.setIfInBounds_toArray, List.set_cons_succ, List.set_cons_zero]) | (refine tree_skip (by rfl) (by rfl) ?_; simp only [Act.put, List.setIfInBounds_toArray, List.set_cons_succ, List.set_cons_zero]))
      refine tree_some _ (by rfl) (by rfl) (by exact ⟨_, rfl⟩) (fun W hE hF => ?_) (fun v Wa Wb ho hE => ?_) (fun v hv => ?_)
      · have hE' : Ext [] Wa W := hE
        have hbW := (hE'.block _ hsR (by simp)).trans HRR.out
        obtain ⟨hcw, hfw, hsw'⟩ := cells_of_block hbW
        refine does_skip (W' := ((((((((((W.setCell ⟨w.heap.size + 1, 0, none⟩ (iv h.last)).setCell ⟨w.heap.size + 1, 1, none⟩ (iv h.size)).setCell ⟨w.heap.size + 1, 2, none⟩ (iv h.cool)).setCell ⟨w.heap.size + 1, 3, none⟩ (iv h.die)).setCell ⟨w.heap.size + 1, 4, none⟩ (iv h.burn)).setCell ⟨w.heap.size + 1, 5, none⟩ (iv h.start.1)).setCell ⟨w.heap.size + 1, 6, none⟩ (iv h.start.2)).setCell ⟨w.heap.size + 1, 7, none⟩ (.slice ow h.wet.length cw)).setCell ⟨w.heap.size + 1, 8, none⟩ (.slice ot h.turns.length ct)).setCell ⟨w.heap.size + 1, 9, none⟩ (.slice oo R.length oc))) (by go_simp; try rfl) ⟨rfl, set_ten hbW _ _ _ _ _ _ _ _ _ _, ?_⟩
        exact ext_ten _ _ _ _ _ _ _ _ _ _
      · have hE' : Ext [] Wa Wb := hE
        exact (hE'.block _ (Array.getElem?_eq_some_iff.1 ho).1 (by simp)).trans ho
      obtain rfl : v = _ := hv
      simp only [Act.put]
      intro Wc hE hF
      have hE' : Ext [w.heap.size + 1] Wa Wc := hE
      have HEc := Lib.hid hE'
      have HRW := Lib.hid (show Wc.heap[w.heap.size + 1]? = some (.cells #[iv h.last, iv h.size, iv h.cool, iv h.die, iv h.burn, iv h.start.1, iv h.start.2, .slice ow h.wet.length cw, .slice ot h.turns.length ct, .slice oo R.length oc] 28 (0, 0)) from hF _ (List.Mem.head _))
      have HZW := Lib.hid ((hE'.block _ hsZ (by simp)).trans HZZ.out)
      obtain ⟨hcz, _, hsz⟩ := cells_of_block HZW.out
      clear hE hF hE' hcx hct
      go_wp2_with fail
      obtain ⟨WF, hWF⟩ : ∃ WF, (Wc.setCell ⟨w.heap.size + 1 + 1, 0, none⟩ (iv t.1)).setCell ⟨w.heap.size + 1 + 1, 1, none⟩ (.slice ou t.2.length cu) = WF := ⟨_, rfl⟩
      obtain ⟨hc1, _, _⟩ := cells_of_block (show WF.heap[w.heap.size + 1]? = some (.cells #[iv h.last, iv h.size, iv h.cool, iv h.die, iv h.burn, iv h.start.1, iv h.start.2, .slice ow h.wet.length cw, .slice ot h.turns.length ct, .slice oo R.length oc] 28 (0, 0)) from by
        rw [← hWF]
        exact (Below.heap_setCell _ _ _ _ (by show w.heap.size + 1 ≠ w.heap.size + 1 + 1; omega)).trans ((Below.heap_setCell _ _ _ _ (by show w.heap.size + 1 ≠ w.heap.size + 1 + 1; omega)).trans HRW.out))
      obtain ⟨hc2, _, _⟩ := cells_of_block (show WF.heap[w.heap.size + 1 + 1]? = some (.cells #[iv t.1, .slice ou t.2.length cu] 66 (0, 0)) from by
        rw [← hWF]
        exact set_block (set_block HZW.out _) _)
      rw [hWF]
      clear hcz
      (try simp only [Exit.inBlock, Exit.then])
      refine bodyPost_ret (v := .tuple #[hv { h with readings := R } (.slice ow h.wet.length cw) (.slice ot h.turns.length ct) (.slice oo R.length oc), .agg #[iv t.1, .slice ou t.2.length cu]]) (by simp [results, Try.results59, go_sem, hc1, hc2]; try omega) rfl ?_
      refine ⟨R, oo, oc, .slice ou t.2.length cu, rfl, ?_, ?_, by omega, HRG.out, ?_⟩
      · rw [← hWF]
        exact SlAt.of_owns (owns_ext (Ms := [w.heap.size + 1 + 1]) (owns_ext (Ms := [w.heap.size + 1 + 1]) (owns_ext (Ms := [w.heap.size + 1]) (owns_ext (Ms := []) HOW.out (Ext.of_below HDa.out) (by simp)) HEc.out (by simp; omega)) (ext_set _ ⟨w.heap.size + 1 + 1, 0, none⟩ _) (by simp; omega)) (ext_set _ ⟨w.heap.size + 1 + 1, 1, none⟩ _) (by simp; omega))
      · rw [← hWF]
        have hn1 : (Value.slice ou t.2.length cu).ownBlock ≠ some (w.heap.size + 1) := fun e => by have := (HOU.out _ e).2; omega
        have hn2 : (Value.slice ou t.2.length cu).ownBlock ≠ some (w.heap.size + 1 + 1) := fun e => by have := (HOU.out _ e).2; omega
        exact SlAt.setCell (SlAt.setCell (SlAt.ext (SlAt.below HVR.out HDa.out (Nat.le_refl _)) HEc.out (by simpa using hn1)) ⟨w.heap.size + 1 + 1, 0, none⟩ _ hn2) ⟨w.heap.size + 1 + 1, 1, none⟩ _ hn2
      · rw [← hWF]
        exact bgoSet (bgoSet (below_of_ext HBa.out HEc.out (by omega)) (by show w.heap.size ≤ w.heap.size + 1 + 1; omega) _) (by show w.heap.size ≤ w.heap.size + 1 + 1; omega) _
    have hltI : (i : Int) < N := by omega
    obtain ⟨hh, hhh⟩ : ∃ hh : Nat, wv % (h.last + 1) = hh := Int.eq_ofNat_of_zero_le (Int.emod_nonneg _ (by omega))
    have hhl : (hh : Int) ≤ h.last := by have := Int.emod_lt_of_pos wv (show 0 < h.last + 1 by omega); omega
    obtain ⟨ee, hee⟩ : ∃ ee, wv / 16 % 4 = ee := ⟨_, rfl⟩
    have hee2 : 0 ≤ ee ∧ ee ≤ 3 := by omega
    obtain ⟨df, hdf⟩ : ∃ df, wv / 64 % (2 * ee + 1) = df := ⟨_, rfl⟩
    have hdf2 : 0 ≤ df ∧ df ≤ 2 * ee := by
      have h1 := Int.emod_nonneg (wv / 64) (show 2 * ee + 1 ≠ 0 by omega)
      have h2 := Int.emod_lt_of_pos (wv / 64) (show 0 < 2 * ee + 1 by omega)
      omega
    have hnz : ¬ h.last + 1 = 0 := by omega
    have hnz2 : ¬ 2 * ee + 1 = 0 := by omega
    obtain ⟨m, hm⟩ : ∃ m, heatAt h.size h.cool h.turns t.1 t.2 (hh + 1) = m := ⟨_, rfl⟩
    have hmb := hHO.out.bd h.turns (hh + 1)
    rw [hm] at hmb
    have hmb2 : 0 ≤ m ∧ m ≤ 1000 := by omega
    have HMM := Lib.hid hm
    clear hm hmb
    go_wp2_with fail
    refine (word_any words _ 0 wr (HWD.out.below HB.out (Nat.le_refl _)) (by omega)).mono ?_
    rw [HQ0.out]
    rintro e Wa ⟨rfl, hba⟩
    have HDa := Lib.hid hba
    clear hba
    go_wp2_with fail
    refine (word_any words _ ((i : Int) + 1) Wa ((HWD.out.below HB.out (Nat.le_refl _)).below HDa.out (Nat.le_refl _)) (by omega)).mono ?_
    rw [HWV.out]
    rintro e Wb ⟨rfl, hbb⟩
    have HDb := Lib.hid (bgo HDa.out hbb)
    obtain ⟨hcr, _, hsr⟩ := cells_of_block ((HDb.out.block _ (cells_of_block HAR.out).2.2).trans HAR.out)
    clear hbb
    go_wp2_with fail
    refine gworld fun Wc hWc => ?_
    have HDc := Lib.hid (show Below wr.heap.size wr Wc from by rw [hWc]; exact bgoAlloc HDb.out _)
    have HRBc := Lib.hid (show Wc.heap[Wb.heap.size]? = some (.cells #[iv hh, iv 0, iv ee] 79 (0, 0)) from by rw [hWc]; exact heap_new0 _ _)
    have hzb := HDb.out.size
    clear hWc hcr hsr
    have hza := (cells_of_block HAR.out).2.2
    have hzt := (cells_of_block HTR.out).2.2
    have hzx := (cells_of_block HBL.out).2.2
    obtain ⟨hcr, _, hsr⟩ := cells_of_block ((HDc.out.block _ hza).trans HAR.out)
    obtain ⟨hct, _, hst⟩ := cells_of_block ((HDc.out.block _ hzt).trans HTR.out)
    obtain ⟨hcb, _, hsb⟩ := cells_of_block HRBc.out
    have HHT := Lib.hid (fun (W : World) (hW : Below Wc.heap.size Wc W) => Heat_at h t hHO.out ow ot ox h.wet.length cw h.turns.length ct h.readings.length cx (.slice ou t.2.length cu) (.slice ot h.turns.length ct) h.turns hh W (by omega) (by omega) (SlAt.below (SlAt.below HVR.out HDc.out (Nat.le_refl _)) hW (Nat.le_refl _)) (SlAt.below (SlAt.below (SlAt.below HT.out HB.out (Nat.le_refl _)) HDc.out (Nat.le_refl _)) hW (Nat.le_refl _)))
    rw [HMM.out] at HHT
    refine wp_region_rg 19 [] none [(6, Spec.val (iv m))] (by kernel_rfl) (by kernel_rfl) ?_
    simp only [List.take_succ_cons, List.take_zero, List.drop_succ_cons, List.drop_zero]
    repeat (first | (refine tree_det (by rfl) _ (by rfl) (fun W hW => by go_simp; try rfl) ?_; simp only [Act.put, List.setIfInBounds_toArray, List.set_cons_succ, List.set_cons_zero]) | (refine tree_skip (by rfl) (by rfl) ?_; simp only [Act.put, List.setIfInBounds_toArray, List.set_cons_succ, List.set_cons_zero]))
    refine tree_val _ (by rfl) (by rfl) 37 _ (fun W hW => by go_simp; try rfl) (fun W hE hF => by exact HHT.out W (Ext.below (show Ext [] Wc W from hE))) ?_
    simp only [Act.put, List.setIfInBounds_toArray, List.set_cons_succ, List.set_cons_zero]
    repeat (first | (refine tree_det (by rfl) _ (by rfl) (fun W hW => by go_simp; (try simp (disch := omega) only [IntWalk.i64_in, Int.tdiv_eq_ediv_of_nonneg, Int.tmod_eq_emod_of_nonneg]); try rfl) ?_; simp only [Act.put, List.setIfInBounds_toArray, List.set_cons_succ, List.set_cons_zero]) | (refine tree_skip (by rfl) (by rfl) ?_; simp only [Act.put, List.setIfInBounds_toArray, List.set_cons_succ, List.set_cons_zero]))
    intro Wd hE hF
    have hE' : Ext [] Wc Wd := hE
    have HDd := Lib.hid hE'.below
    have hzd := hE'.size
    have HRBd := Lib.hid ((hE'.block _ hsb (by simp)).trans HRBc.out)
    clear hE hF hE' hcr hct hcb hsr hst
    obtain ⟨hcb, _, hsb2⟩ := cells_of_block HRBd.out
    go_wp2_with fail
    refine gcallsW fun We hWe => ?_
    obtain ⟨sn, hsn⟩ : ∃ sn, m + df - ee = sn := ⟨_, rfl⟩
    rw [hsn] at hWe ⊢
    have HDe := Lib.hid (show Below wr.heap.size wr We from by rw [hWe]; exact bgoSet (bgo HDc.out HDd.out) (by show wr.heap.size ≤ Wb.heap.size; omega) _)
    have HRBe := Lib.hid (show We.heap[Wb.heap.size]? = some (.cells #[iv hh, iv sn, iv ee] 79 (0, 0)) from by rw [hWe]; exact set_block HRBd.out _)
    have hbe : -ee ≤ m - sn ∧ m - sn ≤ ee := by omega
    have hsnI : -1000 ≤ sn ∧ sn ≤ 2000 := by omega
    clear hWe hcb hsn
    obtain ⟨b, hbb⟩ : ∃ b, inB sn 0 1000 = b := ⟨_, rfl⟩
    have HIB := Lib.hid hbb
    refine (In_any sn 0 1000 We).mono ?_
    rw [HIB.out]
    rintro e Wf ⟨rfl, hbf⟩
    have HDf := Lib.hid (bgo HDe.out hbf)
    have hsbe := (cells_of_block HRBe.out).2.2
    have HRBf := Lib.hid ((hbf.block _ hsbe).trans HRBe.out)
    clear hbf
    have hzf := HDf.out.size
    cases b
    case false =>
      go_wp2_with fail
      go_roundw
      case rel =>
        exact ⟨i + 1, by omega, by go_num, R, oo, oc, by omega, HRG.out, (HDf.out.block _ hzx).trans HBL.out, owns_ext (Ms := []) HOW.out (Ext.of_below HDf.out) (by simp), bgo HB.out HDf.out, by omega, fun c hc hne => (HDf.out.block c (by omega)).trans (HKP.out c hc hne)⟩
      case measure => simp [intOf]; omega
    have hsn2 : 0 ≤ sn ∧ sn ≤ 1000 := by simpa [inB] using hbb
    have HGD : Hid (Good h t ((hh : Int), sn, ee)) := Lib.hid ⟨⟨⟨by simp only; omega, hhl⟩, hsn2, by simp only; omega, by simp only; omega⟩, by
      have hg : (heats h t h.turns).getD hh 0 = m := by
        rw [heatI_at (by omega) (by omega)]
        exact HMM.out
      unfold rightR inB
      simp only [Int.toNat_natCast, hg, Bool.and_eq_true, decide_eq_true_eq]
      omega⟩
    clear hbb
    obtain ⟨hcx, _, hsx⟩ := cells_of_block ((HDf.out.block _ hzx).trans HBL.out)
    obtain ⟨hcb, _, hsb3⟩ := cells_of_block HRBf.out
    have HE5 := Lib.hid (show Ext [] wr (Wf.alloc (.cells #[iv hh, iv sn, iv ee] 79)) from Ext.of_below (bgoAlloc HDf.out _))
    have HOW5 := Lib.hid (owns_ext (Ms := []) HOW.out HE5.out (by simp))
    have hRl : R.length ≤ 5 := by omega
    go_wp2_with (at_builtin; go_loud (refine wpList_append_at rfl _ _ tReadings4 rfl W4.heap.size (.slice oo R.length oc) R.length (tripleCells R) rfl HOW5.out (.slice (some ⟨Wf.heap.size, 0, none⟩) 1 1) 1 (tripleCells [((hh : Int), sn, ee)]) rfl (SlAt.of_block 3 1 (heap_new0 _ _) rfl (by decide)) (one_triples _) (by omega) (by omega) (by simp; omega) ?_))
    intro v' W6 hown6 hgr6 _
    obtain ⟨o6, c6, rfl⟩ := owns_slice hown6
    have HP := Lib.hid (ap_push (i := 9) (u := .slice o6 (R.length + 1) c6) HB.out HOW.out HE5.out hown6 hgr6 hsw hz4a (by omega) HBL.out)
    obtain ⟨hcr6, hfr6, hsr6⟩ := cells_of_block (((ap_push0 HB.out HOW.out HE5.out hown6 hgr6 (by omega) hsw).2.2 _ hz4a).trans HBL.out)
    clear hown6 hgr6 hcx hcb
    go_wp2_with fail
    go_roundw
    case rel =>
      refine ⟨i + 1, by omega, by go_num, R ++ [((hh : Int), sn, ee)], o6, c6, by simp; omega, fun x hx => ?_, ?_, ?_, HP.out.1, HP.out.2.1, fun c hc hne => (HP.out.2.2.2.2 c hc hne).trans (HKP.out c hc hne)⟩
      · rcases List.mem_append.1 hx with hx | hx
        · exact HRG.out x hx
        · obtain rfl := List.mem_singleton.1 hx
          exact HGD.out
      · rw [List.length_append]
        exact HP.out.2.2.2.1
      · rw [List.length_append, tripleCells_snoc]
        exact HP.out.2.2.1
    case measure => simp [intOf]; omega

end Go.Proofs.Ytoibfafmnaooaaa

/-
  The reference's Safe: the owed bounds' low ends, or their shares of the money.
-/
import Derived.WalkKit
import Derived.WalkLawsBesides
import Derived.WalkSpells
import Derived.Outline
import Derived.Handy
import Derived.KernelRfl
import Derived.Lib.Hide
import Derived.BigRegion
import Derived.Deep.Cut
import Derived.Test.YtdjgikcnmokjkaaGreatZN
import Derived.Test.YtdjgikcnmokjkaaGreatZO
import Derived.Test.YtdjgikcnmokjkaaGreatVR
import Derived.Test.YtdjgikcnmokjkaaGreatKF
namespace Go.Proofs.YtdjgikcnmokjkaaGreat
open Go.RowKit Go.RG Go.SL Go.Shelf Cou Go.TB
set_option maxHeartbeats 400000
set_option maxRecDepth 10000

set_option maxHeartbeats 4000000 in
/-- L: the low ends of what is owed, weeder by weeder. -/
theorem zSafe_any {l : LedgerD} (hS : SoundL l) (tv nv ev : Value) (es : List LE) (of : Int) (L : List Int) (w : World) (hn : TriplesAt w nv l.notes) (he : ListsAt w ev es) (hes : es.map (·.2) = rowsL l)
    (hL : ∀ i, i < l.field.weeders.toNat → (widL emptyR (bndCs l (rowsL l) i)).1 = L.getD i 0) (hl : L.length = l.field.weeders.toNat) (hb : ∀ x ∈ L, 0 ≤ x ∧ x ≤ 2000) (h0 : 0 ≤ of ∧ of ≤ 2000) :
    Calls Tryz.prog 66 #[lv l tv nv, ev, iv of] w (fun e w' => ∃ u, e = .returned u ∧ IntsAt w' u (if sumI L ≤ of then L else rshareL of L) ∧ Below w.heap.size w w') := by
  obtain ⟨on, cn, rfl⟩ := hn.open
  obtain ⟨eo, ec, rfl⟩ := he.1.open
  have hF := soundF_of hS.field
  obtain ⟨n, hnw⟩ : ∃ n : Nat, l.field.weeders = n := ⟨l.field.weeders.toNat, by have := hF.weed0; omega⟩
  have hwt : l.field.weeders.toNat = n := by omega
  have hn3 : n ≤ 3 := by have := hF.weed1; omega
  have HBO := Lib.hid (fun (i : Nat) (hi : i < n) (W : World) (hW : Below w.heap.size w W) => zBounds_any hS tv (.slice on l.notes.length cn) (.slice eo es.length ec) es i W (hn.below hW (Nat.le_refl _)) (last_lists he W hW) hes (by rw [hwt]; exact hi))
  rw [hwt] at hL hl
  have HLL := Lib.hid (And.intro hL (And.intro hl hb))
  have HNW := Lib.hid (And.intro hnw hwt)
  have H00 := Lib.hid h0
  obtain ⟨RV, hRV⟩ : ∃ RV, (if sumI L ≤ of then L else rshareL of L) = RV := ⟨_, rfl⟩
  rw [hRV]
  have HRV := Lib.hid hRV
  clear hS hn he hes hL hl hb hF hnw hwt h0 hRV
  go_enter Tryz.func66, Tryz.ntmps66
  go_wp2_with fail
  have hk0 := heap_new0 w (.cells (lcells l tv (.slice on l.notes.length cn)) 30)
  obtain ⟨w1, hw1⟩ : ∃ w1, w.alloc (.cells (lcells l tv (.slice on l.notes.length cn)) 30) = w1 := ⟨_, rfl⟩
  have hB1 : Below w.heap.size w w1 := by rw [← hw1]; exact bgoAlloc (Below.refl _ _) _
  rw [hw1] at hk0
  first | rw [hw1] | skip
  have H1 := Lib.hid (And.intro hB1 hk0)
  clear hw1 hB1 hk0
  go_loopw [7, 8] (fun v5 u wr => ∃ k : Nat, k ≤ n ∧ u = .int .i64 k ∧ (∃ oo oc, v5 = .slice oo k oc ∧ wr.ownsRow w1.heap.size 3 1 (.slice oo k oc) k (intCells (L.take k))) ∧ Below w1.heap.size w1 wr) (fun _ u _ => n - (intOf u).toNat)
  case atStart => exact ⟨0, Nat.zero_le _, rfl, ⟨none, 0, rfl, ⟨rfl, .inl ⟨rfl, rfl⟩⟩⟩, Below.refl _ _⟩
  case round =>
    obtain ⟨k, hk, rfl, ⟨oo, oc, rfl, how⟩, hB⟩ := hrel
    have hk0 := (hB.block _ (Array.getElem?_eq_some_iff.1 H1.out.2).1).trans H1.out.2
    have HX := Lib.hid (And.intro how hB)
    by_cases hlt : k < n
    · have hltI : (k : Int) < l.field.weeders := by rw [HNW.out.1]; omega
      have hkL : k < L.length := by rw [HLL.out.2.1]; exact hlt
      have hsu : L.take (k + 1) = L.take k ++ [L[k]] := List.take_succ_eq_append_getElem hkL
      have hlow := HLL.out.1 k hlt
      rw [show L.getD k 0 = L[k] by simp [List.getD, hkL]] at hlow
      have hbx := HLL.out.2.2 _ (List.getElem_mem hkL)
      have HBK := Lib.hid (HBO.out k hlt wr (bgo H1.out.1 hB))
      generalize L[k] = y at *
      generalize widL emptyR (bndAs l (rowsL l) k) = A at *
      generalize widL emptyR (bndBs l (rowsL l) k) = B at *
      generalize widL emptyR (bndCs l (rowsL l) k) = C at *
      obtain ⟨A0, A1⟩ := A
      obtain ⟨B0, B1⟩ := B
      obtain ⟨C0, C1⟩ := C
      simp only at hlow
      subst hlow
      have HSU := Lib.hid hsu
      obtain ⟨c0, f0, l0⟩ := cells_of_block hk0
      clear hk0 how hB hsu
      go_wp2_with fail
      refine HBK.out.mono ?_
      rintro e Wa ⟨rfl, hb⟩
      have HBA := Lib.hid hb
      clear hb c0 f0
      go_upto_region 6 with (fail)
      refine gworld fun W2 hW2 => ?_
      have hx3 : W2.heap[Wa.heap.size + 1 + 1]? = some (.cells #[iv C0, iv C1] 27 (0, 0)) := by rw [hW2]; exact heap_new2 _ _ _ _
      have hb : Below wr.heap.size wr W2 := by rw [hW2]; exact bgoAlloc (bgoAlloc (bgoAlloc HBA.out _) _) _
      have how2 : W2.ownsRow w1.heap.size 3 1 (.slice oo k oc) k (intCells (L.take k)) := owns_keep HX.out.1 fun g hg => hb.block g (owns_ge HX.out.1 g hg).2
      have HX2 := Lib.hid (And.intro how2 (bgo HX.out.2 hb))
      have hsz2 := (bgo HX.out.2 hb).size
      obtain ⟨c3, f3, l3⟩ := cells_of_block hx3
      clear hb how2 hW2 hx3
      go_wp2_with (at_builtin; refine wpList_append_at rfl _ _ tInts rfl w1.heap.size (.slice oo k oc) k (intCells (L.take k)) rfl ?_ (.slice (some ⟨W2.heap.size, 0, none⟩) 1 1) 1 (intCells [C0]) rfl ?_ (one_ints _) (by omega) (by omega) (by simp; omega) ?_)
      · exact owns_ext (Ms := []) HX2.out.1 (Ext.of_below ((Below.refl _ _).alloc (Nat.le_refl _) _)) (by simp)
      · exact SlAt.of_block 1 1 (heap_new0 _ _) rfl (by decide)
      · intro v' Wc hown hgr hcase
        obtain ⟨oo3, oc3, rfl⟩ := owns_slice hown
        rw [← intCells_app, ← HSU.out] at hown
        have hwB : Below W2.heap.size W2 (W2.alloc (.cells #[iv C0] 3)) := bgoAlloc (Below.refl _ _) _
        have HY := Lib.hid (And.intro hown (Below.grown (bgo HX2.out.2 hwB) hgr (by have := hwB.size; omega) (fun g e => (owns_ge HX2.out.1 g e).1)))
        clear hown hgr hcase hwB c3 f3 l3
        go_wp2_with fail
        go_roundw
        case rel => exact ⟨k + 1, by omega, by go_num, ⟨oo3, oc3, rfl, HY.out.1⟩, HY.out.2⟩
        case measure => simp [intOf]; omega
    · have hkn : k = n := by omega
      subst hkn
      have hnl : ¬ (k : Int) < l.field.weeders := by rw [HNW.out.1]; omega
      have htk : L.take k = L := List.take_of_length_le (by rw [HLL.out.2.1]; omega)
      rw [htk] at HX
      obtain ⟨c0, f0, l0⟩ := cells_of_block hk0
      have hiL : IntsAt wr (.slice oo k oc) L := by unfold IntsAt; rw [HLL.out.2.1]; exact SlAt.of_owns HX.out.1
      have HIL := Lib.hid hiL
      obtain ⟨sv, hsv⟩ : ∃ s, sumI L = s := ⟨_, rfl⟩
      have hsm := (zSum_any L (.slice oo k oc) wr hiL (fun x hx => by have := HLL.out.2.2 x hx; omega) (by rw [HLL.out.2.1]; omega))
      rw [hsv] at hsm
      have HSM := Lib.hid hsm
      have HSV := Lib.hid hsv
      clear hsm
      clear hk0 how hB htk hiL hsv
      go_wp2_with fail
      refine HSM.out.mono ?_
      rintro e W3 ⟨rfl, hb⟩
      have HB3 := Lib.hid (And.intro (bgo H1.out.1 (bgo HX.out.2 hb)) hb)
      clear hb c0 f0
      by_cases hle : sv ≤ of
      · go_wp2_with fail
        go_returns
        refine ⟨.slice oo k oc, by simp, ?_, HB3.out.1⟩
        have hi := SlAt.below HIL.out HB3.out.2 (Nat.le_refl _)
        rw [← HRV.out, HSV.out, if_pos hle]
        exact hi
      · have HSH := Lib.hid (zShare_any of L (.slice oo k oc) W3 (SlAt.below HIL.out HB3.out.2 (Nat.le_refl _)) H00.out (by have := HSV.out; have := H00.out; omega) HLL.out.2.2 (by rw [HLL.out.2.1]; omega))
        go_wp2_with fail
        refine HSH.out.mono ?_
        rintro e W4 ⟨u, rfl, hu, hb⟩
        have HB4 := Lib.hid (And.intro hu (bgo HB3.out.1 hb))
        clear hb hu
        go_wp2_with fail
        go_returns
        have hi := SlAt.of_owns HB4.out.1
        refine ⟨u, by simp, ?_, HB4.out.2⟩
        rw [← HRV.out, HSV.out, if_neg (by omega)]
        exact hi
end Go.Proofs.YtdjgikcnmokjkaaGreat

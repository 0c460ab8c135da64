/-
  Contracts of package wage, fifth part: what each weeder can have been paid.
-/
import Derived.WalkKit
import Derived.WalkLawsBesides
import Derived.WalkSpells
import Derived.Outline
import Derived.Handy
import Derived.KernelRfl
import Derived.Lib.Hide
import Derived.Test.YtdjgikcnmokjkaaQD
namespace Go.Proofs.Ytdjgikcnmokjkaa
open Go.RowKit Go.RG Go.SL Go.Shelf Cou Go.TB
set_option maxHeartbeats 400000
set_option maxRecDepth 10000

theorem tGRanges : SliceT Try.prog 58 38 (rv (0, 0)) 2 16 := ⟨Try.underlying58, by kernel_rfl, rfl, by omega⟩

def PaidPost (l : LedgerD) (out d : List Int) (w : World) (e : Ending) (w' : World) : Prop :=
  Below w.heap.size w w' ∧ ((canPay l out d = true ∧ ∃ v, e = .returned (.tuple #[v, .bool true]) ∧ w'.ownsRow w.heap.size 38 2 v (paidL l out d).length (pairCells (paidL l out d))) ∨ (canPay l out d = false ∧ e = .returned (.tuple #[.slice none 0 0, .bool false])))

set_option maxHeartbeats 4000000 in
theorem paid_any (l : LedgerD) (hS : SoundF l.field) (hbx : 0 ≤ l.box.1 ∧ l.box.1 ≤ 2000 ∧ 0 ≤ l.box.2 ∧ l.box.2 ≤ 2000) (tv nv v : Value) (out d : List Int) (hd3 : d.length = 3) (rs : List Rng) (hrs : rs = alone l out d)
    (hrb : ∀ r ∈ rs, 0 ≤ r.1 ∧ r.1 ≤ 2000 ∧ 0 ≤ r.2 ∧ r.2 ≤ 2000) (wb mb : Nat) (T : List ((Int × Int) × Rng)) (w : World) (hw : w.heap[wb]? = some (.cells (wwcells l tv nv v mb) 126 (0, 0))) (hT : TabAt spv rv (fun _ => True) w mb T)
    (hlook : ∀ i : Nat, i < l.field.weeders.toNat → TB.look ((i : Int), d.getD i 0) T = some (rs.getD i (0, 0))) :
    Calls Try.prog 68 #[.pointer (some ⟨wb, 0, none⟩), aggI d] w (PaidPost l out d w) := by
  have hrl : rs.length = l.field.weeders.toNat := by rw [hrs, alone_len]
  have hw0 := hS.weed0
  have hw3 := hS.weed1
  obtain ⟨n, hn⟩ : ∃ n : Nat, l.field.weeders = n := ⟨l.field.weeders.toNat, by omega⟩
  have hnt : l.field.weeders.toNat = n := by omega
  rw [hnt] at hlook hrl
  have hn3 : n ≤ 3 := by omega
  obtain ⟨y0, y1, y2, hys⟩ := three_of hd3
  have hlow := sumTo_bd (·.1) rs (fun r hr => by have := hrb r hr; omega)
  have hhigh := sumTo_bd (·.2) rs (fun r hr => by have := hrb r hr; omega)
  obtain ⟨c1, f1, l1⟩ := cells_of_block hw
  have hag : aggI d = .agg #[iv y0, iv y1, iv y2] := by rw [hys]; rfl
  rw [hag]
  have HN := Lib.hid hn
  have HRS := Lib.hid (And.intro hrs hrl)
  have HLK := Lib.hid hlook
  have HRB := Lib.hid (And.intro hrb (And.intro hlow hhigh))
  have HW := Lib.hid (And.intro hw hT)
  have HYS := Lib.hid (And.intro hys hd3)
  clear hrs hrl hlook hrb hlow hhigh hw hT hn hnt hw0 hw3 hag hys hd3
  go_enter Try.func68, Try.ntmps68
  go_wp2_with fail
  obtain ⟨W1, hW1⟩ : ∃ W1, w.alloc (.cells #[iv y0, iv y1, iv y2] 107) = W1 := ⟨_, rfl⟩
  have hB1 : Below w.heap.size w W1 := by rw [← hW1]; exact bgoAlloc (Below.refl _ _) _
  have hk0 : W1.heap[w.heap.size]? = some (.cells #[iv y0, iv y1, iv y2] 107 (0, 0)) := by rw [← hW1]; exact heap_new0 _ _
  have hw1 := (hB1.block _ l1).trans HW.out.1
  have hT1 := HW.out.2.below hB1 (Nat.le_refl _)
  have hs1 : W1.heap.size = w.heap.size + 1 := by rw [← hW1]; simp
  have HX1 := Lib.hid (And.intro hB1 (And.intro hk0 (And.intro hw1 hT1)))
  rw [hW1]
  have hws : w.heap.size < W1.heap.size := by omega
  have hwb1 : wb < W1.heap.size := by omega
  clear hW1 hB1 hk0 hw1 hT1 hs1 c1 f1
  rw [HN.out]
  go_loopw [4, 6, 7, 18] (fun v4 v6 v7 u wr => ∃ i : Nat, i ≤ n ∧ u = .int .i64 i ∧ v6 = .int .i64 (sumTo (·.1) rs i) ∧ v7 = .int .i64 (sumTo (·.2) rs i) ∧ (∃ oo oc, v4 = .slice oo i oc ∧ wr.ownsRow W1.heap.size 38 2 (.slice oo i oc) i (pairCells (rs.take i))) ∧ Below W1.heap.size W1 wr ∧
      (∀ j (hj : j < rs.length), j < i → rs[j].1 ≤ rs[j].2)) (fun _ _ _ u _ => n - (intOf u).toNat)
  case atStart => exact ⟨0, Nat.zero_le _, rfl, rfl, rfl, ⟨none, 0, rfl, ⟨rfl, .inl ⟨rfl, rfl⟩⟩⟩, Below.refl _ _, fun j hj h => by omega⟩
  case round =>
    obtain ⟨i, hi, rfl, rfl, rfl, ⟨oo, oc, rfl, how⟩, hB, hok⟩ := hrel
    have hwr := (hB.block _ hwb1).trans HX1.out.2.2.1
    have hkr := (hB.block _ hws).trans HX1.out.2.1
    have hTr := HX1.out.2.2.2.below hB (Nat.le_refl _)
    obtain ⟨d1, g1, m1⟩ := cells_of_block hwr
    by_cases hlt : i < n
    · have hir : i < rs.length := by rw [HRS.out.2]; exact hlt
      have hcell := cell_of_ints (show wr.heap[w.heap.size]? = some (.cells (intCells d).toArray 107 (0, 0)) by rw [HYS.out.1]; exact hkr) (show i < d.length by rw [HYS.out.2]; omega)
      have hgd : d.getD i 0 = d[i]'(by rw [HYS.out.2]; omega) := by simp [List.getD, HYS.out.2, show i < 3 by omega]
      have hlk := HLK.out i hlt
      rw [hgd, show rs.getD i (0, 0) = rs[i] from by simp [List.getD, hir]] at hlk
      generalize d[i]'(by rw [HYS.out.2]; omega) = di at *
      have hlook := fun W hW => look_run keySpot (mt := 124) (e := 38) (by kernel_rfl) (z := rv (0, 0)) (fun W => by simp [go_sem]) hTr ((i : Int), di) trivial false W hW
      rw [hlk] at hlook
      simp only [Option.map_some, Option.getD_some, Option.isSome_some, Bool.false_eq_true, if_false] at hlook
      have hbd := HRB.out.1 rs[i] (List.getElem_mem hir)
      have hlo := HRB.out.2.1 i (by omega)
      have hhi := HRB.out.2.2 i (by omega)
      have hls := sumTo_succ (·.1) hir
      have hhs := sumTo_succ (·.2) hir
      have htk : rs.take (i + 1) = rs.take i ++ [rs[i]] := List.take_succ_eq_append_getElem hir
      generalize hri : rs[i] = r at *
      have hb8l := m1
      have hi3 : i < 3 := by omega
      have hi3I : (i : Int) < 3 := by omega
      have hwl : w.heap.size < wr.heap.size := by have := hB.size; omega
      have HL := Lib.hid hlook
      have HS := Lib.hid (And.intro hls (And.intro hhs htk))
      have HX := Lib.hid (And.intro how (And.intro hB (And.intro hwr (And.intro hTr hok))))
      have HRI := Lib.hid hri
      clear hgd hlk hlook hls hhs htk how hB hwr hkr hTr hok hri
      generalize sumTo (·.1) rs i = slo at *
      generalize sumTo (·.2) rs i = shi at *
      go_upto_region 5 with (fail)
      refine wp_region_rg 11 [] none [(10, Spec.block wr.heap.size #[iv 0, iv 0] 38)] (by kernel_rfl) (by kernel_rfl) ?_
      simp only [List.take_succ_cons, List.take_zero, List.drop_succ_cons, List.drop_zero]
      repeat (first | (refine tree_det (by rfl) _ (by rfl) (fun W hW => by go_simp; (try simp (disch := omega) only [IntWalk.i64_in]); try rfl) ?_; simp only [Act.put, List.setIfInBounds_toArray, List.set_cons_succ, List.set_cons_zero]) | (refine tree_skip (by rfl) (by rfl) ?_; simp only [Act.put, List.setIfInBounds_toArray, List.set_cons_succ, List.set_cons_zero]))
      refine tree_det_on (by rfl) (rv r) (by rfl) (fun W hE _ => by have := HL.out W (hE.block mb (HX.out.2.2.2.1.lt) (by simp)); go_simp; try rfl) ?_
      simp only [Act.put, List.setIfInBounds_toArray, List.set_cons_succ, List.set_cons_zero]
      refine tree_block wr.heap.size _ _ (by rfl) (Nat.le_refl _) (by rfl) (by simp) (by simp) (fun W hW => by go_simp; try rfl) (fun b9 => ?_)
      simp only [Act.put, List.setIfInBounds_toArray, List.set_cons_succ, List.set_cons_zero]
      intro W5 hE5 hF5
      have hE5' : Ext [] wr W5 := hE5
      obtain ⟨c9, hb9, hge9, hk9⟩ := hF5 _ (List.Mem.head _)
      cases hb9
      obtain ⟨p1, p2, p3⟩ := cells_of_block hk9
      have HE5 := Lib.hid hE5'
      have hs5 := hE5'.size
      clear hE5 hF5 hE5' hcell
      go_upto_region 6 with (fail)
      refine gworld fun W6 hW6 => ?_
      have hB6 : Below wr.heap.size wr W6 := by rw [hW6]; exact bgoSet (bgoSet (show Below wr.heap.size wr W5 from HE5.out.below) hge9 _) hge9 _
      have hk96 : W6.heap[b9]? = some (.cells #[iv r.1, iv r.2] 38 (0, 0)) := by rw [hW6]; exact set_block (set_block hk9 _) _
      have ho6 : W6.ownsRow W1.heap.size 38 2 (.slice oo i oc) i (pairCells (rs.take i)) := owns_keep HX.out.1 fun g hg => hB6.block g (owns_ge HX.out.1 g hg).2
      have H6 := Lib.hid (And.intro ho6 (And.intro (bgo HX.out.2.1 hB6) (And.intro hB6 hk96)))
      clear hW6 hB6 hk9 p1 p2 p3 d1 g1 ho6
      obtain ⟨p1, p2, p3⟩ := cells_of_block hk96
      clear hk96
      by_cases hgt : r.2 < r.1
      · have hcp : canPay l out d = false := by
          unfold canPay
          rw [← HRS.out.1]
          have : rs.all (fun r => decide (r.1 ≤ r.2)) = false := by
            rw [List.all_eq_false]
            exact ⟨r, by rw [← HRI.out]; exact List.getElem_mem _, by simp; omega⟩
          rw [this]; rfl
        have HCP := Lib.hid hcp
        clear hcp
        go_wp2_with fail
        go_returns
        exact ⟨bgo HX1.out.1 H6.out.2.1, .inr ⟨HCP.out, by simp⟩⟩
      · have hngt : ¬ (r.1 > r.2) := hgt
        go_upto_region 8 with (fail)
        cases oo with
        | none =>
          have hgl : True := trivial
          refine wp_region_rg 14 [] (some 3) [(2, Spec.slice W6.heap.size #[iv r.1, iv r.2] 38 1), (3, ⟨fun _ v => ∃ o c, v = .slice o (i + 1) c, fun _ v Wx => Wx.ownsRow W1.heap.size 38 2 v (i + 1) (pairCells (rs.take (i + 1)))⟩)] (by kernel_rfl) (by kernel_rfl) ?_
          simp only [List.take_succ_cons, List.take_zero, List.drop_succ_cons, List.drop_zero]
          repeat (first | (refine tree_det (by rfl) _ (by rfl) (fun W hW => by go_simp; (try simp (disch := omega) only [IntWalk.i64_in]); try rfl) ?_; simp only [Act.put, List.setIfInBounds_toArray, List.set_cons_succ, List.set_cons_zero]) | (refine tree_skip (by rfl) (by rfl) ?_; simp only [Act.put, List.setIfInBounds_toArray, List.set_cons_succ, List.set_cons_zero]))
          refine tree_slice W6.heap.size _ _ 1 (by rfl) (Nat.le_refl _) (by rfl) (by first | (simp; done) | simpa using hgl) (by simp) (fun W hW => by go_simp; try rfl) (fun b2 => ?_)
          simp only [Act.put, List.setIfInBounds_toArray, List.set_cons_succ, List.set_cons_zero]
          refine tree_some _ (by rfl) (by rfl) (by exact ⟨.slice none (i + 1) 0, none, 0, rfl⟩) (fun Wa hE hF => ?_) (fun v Wa Wb ho hE => ?_) (fun v hv => ?_)
          · have hE' : Ext [] W6 Wa := hE
            obtain ⟨b', hb', hge, hcc⟩ := hF _ (List.Mem.head _) (by kernel_rfl)
            cases hb'
            have hown6 := owns_ext (Ms := []) H6.out.1 hE' (by simp)
            have hsrc : SlAt 2 Wa (.slice (some ⟨b2, 0, none⟩) 1 1) 1 (pairCells [r]) := SlAt.of_block 2 1 hcc rfl (by decide)
            refine Does.mono (does_append_at tGRanges (by rfl) (by rfl) hown6 (by rfl) hsrc (one_pairs _) (by omega) (by omega) (by have := hE'.size; have := H6.out.2.1.size; omega)) ?_
            rintro v' Wc ⟨ho, hgr, hcase⟩
            refine ⟨owns_slice ho, ?_, ⟨hgr.os, hgr.tape, hgr.output, hgr.size, fun b hb hn => hgr.block b hb (fun e => by first | (simp [Value.ownBlock] at e; done) | (simp [Value.ownBlock] at e; exact hn (by simp [e])))⟩⟩
            show Wc.ownsRow _ _ _ v' (i + 1) _
            rw [HS.out.2.2, pairCells_snoc]
            exact ho
          · exact owns_ext (Ms := []) ho hE (by simp)
          obtain ⟨o3, c3, rfl⟩ := hv
          simp only [Act.put, List.setIfInBounds_toArray, List.set_cons_succ, List.set_cons_zero]
          repeat (first | (refine tree_det (by rfl) _ (by rfl) (fun W hW => by go_simp; (try simp (disch := omega) only [IntWalk.i64_in]); try rfl) ?_; simp only [Act.put, List.setIfInBounds_toArray, List.set_cons_succ, List.set_cons_zero]) | (refine tree_skip (by rfl) (by rfl) ?_; simp only [Act.put, List.setIfInBounds_toArray, List.set_cons_succ, List.set_cons_zero]))
          intro W8 hE hF
          have hE' : Ext [] W6 W8 := hE
          have ho8 : W8.ownsRow W1.heap.size 38 2 (.slice o3 (i + 1) c3) (i + 1) (pairCells (rs.take (i + 1))) := hF _ (List.Mem.head _)
          have hB8 : Below W1.heap.size W1 W8 := ⟨hE'.os.trans H6.out.2.1.os, hE'.tape.trans H6.out.2.1.tape, hE'.output.trans H6.out.2.1.output, Nat.le_trans H6.out.2.1.size hE'.size, fun b hb => (hE'.block b (by have := H6.out.2.1.size; omega) (by simp <;> omega)).trans (H6.out.2.1.block b hb)⟩
          have H8 := Lib.hid (And.intro ho8 hB8)
          clear hE hF hE' ho8 hB8 p1 p2 p3
          go_wp2_with fail
          go_roundw
          case rel =>
            refine ⟨i + 1, by omega, by go_num, by rw [HS.out.1], by rw [HS.out.2.1], ⟨o3, c3, rfl, H8.out.1⟩, H8.out.2, fun j hj hji => ?_⟩
            by_cases hje : j = i
            · subst hje; rw [HRI.out]; omega
            · exact HX.out.2.2.2.2 j hj (by omega)
          case measure => simp [intOf]; omega
        | some a =>
          obtain ⟨gb, rfl, hgb⟩ : ∃ gb : Nat, a = ⟨gb, 0, none⟩ ∧ W1.heap.size ≤ gb := by
            obtain ⟨_, ⟨hv, _⟩ | ⟨g, c, cs, hv, hbg, hrest⟩⟩ := H6.out.1
            · cases hv
            · simp at hv; exact ⟨g, hv.1, hbg⟩
          have hgl : gb < W6.heap.size := (owns_ge H6.out.1 gb rfl).2
          have hgw : gb < wr.heap.size := (owns_ge HX.out.1 gb rfl).2
          have hg9 : b9 ≠ gb := by omega
          refine wp_region_rg 14 [gb] (some 3) [(2, Spec.slice W6.heap.size #[iv r.1, iv r.2] 38 1), (3, ⟨fun _ v => ∃ o c, v = .slice o (i + 1) c, fun _ v Wx => Wx.ownsRow W1.heap.size 38 2 v (i + 1) (pairCells (rs.take (i + 1)))⟩)] (by kernel_rfl) (by kernel_rfl) ?_
          simp only [List.take_succ_cons, List.take_zero, List.drop_succ_cons, List.drop_zero]
          repeat (first | (refine tree_det (by rfl) _ (by rfl) (fun W hW => by go_simp; (try simp (disch := omega) only [IntWalk.i64_in]); try rfl) ?_; simp only [Act.put, List.setIfInBounds_toArray, List.set_cons_succ, List.set_cons_zero]) | (refine tree_skip (by rfl) (by rfl) ?_; simp only [Act.put, List.setIfInBounds_toArray, List.set_cons_succ, List.set_cons_zero]))
          refine tree_slice W6.heap.size _ _ 1 (by rfl) (Nat.le_refl _) (by rfl) (by first | (simp; done) | simpa using hgl) (by simp) (fun W hW => by go_simp; try rfl) (fun b2 => ?_)
          simp only [Act.put, List.setIfInBounds_toArray, List.set_cons_succ, List.set_cons_zero]
          refine tree_some _ (by rfl) (by rfl) (by exact ⟨.slice none (i + 1) 0, none, 0, rfl⟩) (fun Wa hE hF => ?_) (fun v Wa Wb ho hE => ?_) (fun v hv => ?_)
          · have hE' : Ext [] W6 Wa := hE
            obtain ⟨b', hb', hge, hcc⟩ := hF _ (List.Mem.head _) (by kernel_rfl)
            cases hb'
            have hown6 := owns_ext (Ms := []) H6.out.1 hE' (by simp)
            have hsrc : SlAt 2 Wa (.slice (some ⟨b2, 0, none⟩) 1 1) 1 (pairCells [r]) := SlAt.of_block 2 1 hcc rfl (by decide)
            refine Does.mono (does_append_at tGRanges (by rfl) (by rfl) hown6 (by rfl) hsrc (one_pairs _) (by omega) (by omega) (by have := hE'.size; have := H6.out.2.1.size; omega)) ?_
            rintro v' Wc ⟨ho, hgr, hcase⟩
            refine ⟨owns_slice ho, ?_, ⟨hgr.os, hgr.tape, hgr.output, hgr.size, fun b hb hn => hgr.block b hb (fun e => by first | (simp [Value.ownBlock] at e; done) | (simp [Value.ownBlock] at e; exact hn (by simp [e])))⟩⟩
            show Wc.ownsRow _ _ _ v' (i + 1) _
            rw [HS.out.2.2, pairCells_snoc]
            exact ho
          · exact owns_ext (Ms := []) ho hE (by simp)
          obtain ⟨o3, c3, rfl⟩ := hv
          simp only [Act.put, List.setIfInBounds_toArray, List.set_cons_succ, List.set_cons_zero]
          repeat (first | (refine tree_det (by rfl) _ (by rfl) (fun W hW => by go_simp; (try simp (disch := omega) only [IntWalk.i64_in]); try rfl) ?_; simp only [Act.put, List.setIfInBounds_toArray, List.set_cons_succ, List.set_cons_zero]) | (refine tree_skip (by rfl) (by rfl) ?_; simp only [Act.put, List.setIfInBounds_toArray, List.set_cons_succ, List.set_cons_zero]))
          intro W8 hE hF
          have hE' : Ext [gb] W6 W8 := hE
          have ho8 : W8.ownsRow W1.heap.size 38 2 (.slice o3 (i + 1) c3) (i + 1) (pairCells (rs.take (i + 1))) := hF _ (List.Mem.head _)
          have hB8 : Below W1.heap.size W1 W8 := ⟨hE'.os.trans H6.out.2.1.os, hE'.tape.trans H6.out.2.1.tape, hE'.output.trans H6.out.2.1.output, Nat.le_trans H6.out.2.1.size hE'.size, fun b hb => (hE'.block b (by have := H6.out.2.1.size; omega) (by simp <;> omega)).trans (H6.out.2.1.block b hb)⟩
          have H8 := Lib.hid (And.intro ho8 hB8)
          clear hE hF hE' ho8 hB8 p1 p2 p3
          go_wp2_with fail
          go_roundw
          case rel =>
            refine ⟨i + 1, by omega, by go_num, by rw [HS.out.1], by rw [HS.out.2.1], ⟨o3, c3, rfl, H8.out.1⟩, H8.out.2, fun j hj hji => ?_⟩
            by_cases hje : j = i
            · subst hje; rw [HRI.out]; omega
            · exact HX.out.2.2.2.2 j hj (by omega)
          case measure => simp [intOf]; omega
    · have hin : i = n := by omega
      subst hin
      have htk : rs.take i = rs := List.take_of_length_le (by rw [HRS.out.2]; exact Nat.le_refl _)
      rw [htk] at how
      have hl : sumTo (·.1) rs i = lowL l out d := by unfold lowL; rw [← HRS.out.1, ← sumTo_all, HRS.out.2]
      have hh : sumTo (·.2) rs i = highL l out d := by unfold highL; rw [← HRS.out.1, ← sumTo_all, HRS.out.2]
      have hall : (alone l out d).all (fun r => decide (r.1 ≤ r.2)) = true := by
        rw [← HRS.out.1, List.all_eq_true]
        intro r hr
        obtain ⟨j, hj, rfl⟩ := List.getElem_of_mem hr
        simpa using hok j hj (by rw [← HRS.out.2]; exact hj)
      have hcp : canPay l out d = (decide (lowL l out d ≤ l.box.2) && decide (l.box.1 ≤ highL l out d)) := by unfold canPay; rw [hall, Bool.true_and]
      have hlo := HRB.out.2.1 i (by rw [HRS.out.2]; exact Nat.le_refl _)
      have hhi := HRB.out.2.2 i (by rw [HRS.out.2]; exact Nat.le_refl _)
      have hpl : paidL l out d = rs.map fun r => bothR r (l.box.1 - (highL l out d - r.2), l.box.2 - (lowL l out d - r.1)) := by unfold paidL; rw [HRS.out.1]
      rw [hl, hh] at *
      generalize lowL l out d = slo at *
      generalize highL l out d = shi at *
      have HCP := Lib.hid hcp
      have HPL := Lib.hid hpl
      have HO := Lib.hid (And.intro how hB)
      have HWR := Lib.hid hwr
      clear hl hh hall hcp hpl how hB hok hwr hkr hTr htk
      by_cases h1 : slo > l.box.2
      · have hF : canPay l out d = false := by rw [HCP.out, decide_eq_false (by omega)]; rfl
        have HF := Lib.hid hF
        clear hF
        go_wp2_with fail
        go_returns
        exact ⟨bgo HX1.out.1 HO.out.2, .inr ⟨HF.out, by simp⟩⟩
      by_cases h2 : shi < l.box.1
      · have hF : canPay l out d = false := by rw [HCP.out, decide_eq_true (show slo ≤ l.box.2 by omega), decide_eq_false (by omega)]; rfl
        have HF := Lib.hid hF
        clear hF
        go_wp2_with fail
        go_returns
        exact ⟨bgo HX1.out.1 HO.out.2, .inr ⟨HF.out, by simp⟩⟩
      have hT : canPay l out d = true := by rw [HCP.out, decide_eq_true (show slo ≤ l.box.2 by omega), decide_eq_true (show l.box.1 ≤ shi by omega)]; rfl
      have HTR := Lib.hid hT
      clear hT
      have hpos : 0 < i := by have := hS.weed0; have := HN.out; omega
      obtain ⟨gb, rfl, hgb⟩ : ∃ gb : Nat, oo = some ⟨gb, 0, none⟩ ∧ W1.heap.size ≤ gb := by
        obtain ⟨_, ⟨hv, h0⟩ | ⟨g, c, cs, hv, hbg, hrest⟩⟩ := HO.out.1
        · omega
        · simp at hv; exact ⟨g, hv.1, hbg⟩
      obtain ⟨ps, hps⟩ : ∃ ps, paidL l out d = ps := ⟨_, rfl⟩
      have hpsl : ps.length = i := by rw [← hps, HPL.out, List.length_map, HRS.out.2]
      have HPS := Lib.hid (And.intro hps hpsl)
      have hq0 : ps.take 0 ++ rs.drop 0 = rs := by simp
      have hown0 : wr.ownsRow W1.heap.size 38 2 (.slice (some ⟨gb, 0, none⟩) i oc) i (pairCells (ps.take 0 ++ rs.drop 0)) := by rw [hq0]; exact HO.out.1
      have HO0 := Lib.hid hown0
      clear hps hpsl hq0 hown0
      go_wp2_with fail
      go_loopw [69] (fun u wq => ∃ j : Nat, j ≤ i ∧ u = .int .i64 j ∧ wq.ownsRow W1.heap.size 38 2 (.slice (some ⟨gb, 0, none⟩) i oc) i (pairCells (ps.take j ++ rs.drop j)) ∧ Below W1.heap.size W1 wq) (fun u _ => i - (intOf u).toNat)
      case atStart => exact ⟨0, Nat.zero_le _, rfl, HO0.out, HO.out.2⟩
      case round =>
        obtain ⟨j, hj, rfl, how, hB⟩ := hrel
        by_cases hlt : j < i
        · have hjr : j < rs.length := by rw [HRS.out.2]; exact hlt
          have hjp : j < ps.length := by rw [HPS.out.2]; exact hlt
          have hQl : (ps.take j ++ rs.drop j).length = i := by rw [List.length_append, List.length_take, List.length_drop, HRS.out.2, HPS.out.2]; omega
          have how' : wr.ownsRow W1.heap.size 38 2 (.slice (some ⟨gb, 0, none⟩) (ps.take j ++ rs.drop j).length oc) (ps.take j ++ rs.drop j).length (pairCells (ps.take j ++ rs.drop j)) := by rw [hQl]; exact how
          have hQj : (ps.take j ++ rs.drop j)[j]'(by rw [hQl]; exact hlt) = rs[j] := by
            rw [List.getElem_append_right (by rw [List.length_take]; omega)]
            simp [List.length_take, Nat.min_eq_left (Nat.le_of_lt hjp)]
          have hQn : (ps.take j ++ rs.drop j).set j ps[j] = ps.take (j + 1) ++ rs.drop (j + 1) := by
            rw [List.set_append_right _ _ (by rw [List.length_take]; omega), List.length_take, Nat.min_eq_left (Nat.le_of_lt hjp), Nat.sub_self, List.take_succ_eq_append_getElem hjp, show rs.drop j = rs[j] :: rs.drop (j + 1) from List.drop_eq_getElem_cons hjr, List.set_cons_zero, List.append_assoc]
            rfl
          have hpj : ps[j] = bothR rs[j] (l.box.1 - (shi - rs[j].2), l.box.2 - (slo - rs[j].1)) := by
            have h1 := HPS.out.1
            have h2 := HPL.out
            rw [h1] at h2
            subst h2
            rw [List.getElem_map]
          have hop := owns_pair how' (show j < (ps.take j ++ rs.drop j).length by rw [hQl]; exact hlt)
          have hbd := HRB.out.1 rs[j] (List.getElem_mem hjr)
          rw [hpj] at hQn
          rw [hQj] at hop
          generalize rs[j] = r at *
          obtain ⟨g2, c2, hg2, hgb2, hgl2, ⟨s0, s1⟩, hfr2⟩ := hop
          obtain ⟨rfl, rfl⟩ : gb = g2 ∧ oc = c2 := by simp at hg2; exact hg2
          have hwr := (hB.block _ hwb1).trans HX1.out.2.2.1
          have hb1 : -10000 ≤ shi - r.2 ∧ shi - r.2 ≤ 10000 := by omega
          have hb2 : -10000 ≤ slo - r.1 ∧ slo - r.1 ≤ 10000 := by omega
          have hb3 : -20000 ≤ l.box.1 - (shi - r.2) ∧ l.box.1 - (shi - r.2) ≤ 20000 := by omega
          have hb4 : -20000 ≤ l.box.2 - (slo - r.1) ∧ l.box.2 - (slo - r.1) ≤ 20000 := by omega
          have HQ := Lib.hid (And.intro hQn (And.intro hQl (And.intro how' hB)))
          have hltI : (j : Int) < i := by omega
          have hbw : Below wr.heap.size wr wr := Below.refl _ _
          clear hpj hQn hQl how how' hB hQj hg2 hbw hjp hjr
          go_upto_region 15 with (fail)
          refine gworld fun W14 hW14 => ?_
          have hB14 : Below wr.heap.size wr W14 := by rw [hW14]; exact (by repeat (first | exact Below.refl _ _ | assumption | refine bgo ?_ (by assumption) | refine bgoAlloc ?_ _ | refine bgoDrew ?_ | refine bgoSet ?_ (by simp; omega) _))
          have hk11 : W14.heap[wr.heap.size]? = some (.cells #[iv r.1, iv r.2] 38 (0, 0)) := by rw [hW14]; exact heap_new0 _ _
          have hw14 := (hB14.block _ (Array.getElem?_eq_some_iff.1 hwr).1).trans hwr
          have s014 := (hB14.cell (p := ⟨gb, j * 2, none⟩) hgl2).trans s0
          have s114 := (hB14.cell (p := ⟨gb, j * 2 + 1, none⟩) hgl2).trans s1
          have hs14 := hB14.size
          have hgl14 : gb < W14.heap.size := by omega
          have H14 := Lib.hid hB14
          obtain ⟨e1, e2, e3⟩ := cells_of_block hw14
          obtain ⟨e4, e5, e6⟩ := cells_of_block hk11
          clear hW14 hB14 hw14 hwr s0 s1 hfr2 hk11
          refine wp_region_rg 27 [] none [(26, Spec.val (rv (bothR r (l.box.1 - (shi - r.2), l.box.2 - (slo - r.1)))))] (by kernel_rfl) (by kernel_rfl) ?_
          simp only [List.take_succ_cons, List.take_zero, List.drop_succ_cons, List.drop_zero]
          repeat (first | (refine tree_det (by rfl) _ (by rfl) (fun W hW => by go_simp; (try simp (disch := omega) only [IntWalk.i64_in]); try rfl) ?_; simp only [Act.put, List.setIfInBounds_toArray, List.set_cons_succ, List.set_cons_zero]) | (refine tree_skip (by rfl) (by rfl) ?_; simp only [Act.put, List.setIfInBounds_toArray, List.set_cons_succ, List.set_cons_zero]))
          refine tree_val _ (by rfl) (by rfl) 99 _ (fun W hW => by go_simp; try rfl) (fun W hE hF => by exact both_any r (l.box.1 - (shi - r.2), l.box.2 - (slo - r.1)) W) ?_
          simp only [Act.put, List.setIfInBounds_toArray, List.set_cons_succ, List.set_cons_zero]
          intro W hE hF
          obtain ⟨hc, hf⟩ := bcell hE.below
          have hzE := hE.size
          (try simp only [World.size_alloc] at hzE)
          have HE := Lib.hid hE
          have hBW : Below wr.heap.size wr W := bgo H14.out hE.below
          have hown : W.ownsRow W1.heap.size 38 2 (.slice (some ⟨gb, 0, none⟩) (ps.take j ++ rs.drop j).length oc) (ps.take j ++ rs.drop j).length (pairCells (ps.take j ++ rs.drop j)) := owns_keep HQ.out.2.2.1 fun g hg => hBW.block g (owns_ge HQ.out.2.2.1 g hg).2
          obtain ⟨g3, c3, hg3, _, hgl3, ⟨t0, t1⟩, hfr3⟩ := owns_pair hown (show j < (ps.take j ++ rs.drop j).length by rw [HQ.out.2.1]; exact hlt)
          obtain ⟨rfl, rfl⟩ : gb = g3 ∧ oc = c3 := by simp at hg3; exact hg3
          have hset := owns_set_pair hown (show j < (ps.take j ++ rs.drop j).length by rw [HQ.out.2.1]; exact hlt) (bothR r (l.box.1 - (shi - r.2), l.box.2 - (slo - r.1)))
          rw [HQ.out.1] at hset
          have hsl : (ps.take (j + 1) ++ rs.drop (j + 1)).length = i := by rw [← HQ.out.1, List.length_set, HQ.out.2.1]
          have HST := Lib.hid (And.intro hset (And.intro hsl (bgo HQ.out.2.2.2 hBW)))
          clear hE hF hown hg3 hset hsl hBW e1 e2 e3 e4 e5 e6 s014 s114 hc hf hzE
          go_wp2_with fail
          go_roundw
          case rel =>
            refine ⟨j + 1, by omega, by go_num, ?_, bgoSet (bgoSet HST.out.2.2 hgb _) hgb _⟩
            have := HST.out.1
            rw [HQ.out.2.1] at this
            exact this
          case measure => simp [intOf]; omega
        · have hji : j = i := by omega
          subst hji
          have hfin : ps.take j ++ rs.drop j = ps := by rw [List.take_of_length_le (by rw [HPS.out.2]; exact Nat.le_refl _), List.drop_of_length_le (by rw [HRS.out.2]; exact Nat.le_refl _), List.append_nil]
          rw [hfin] at how
          have HF := Lib.hid (And.intro how hB)
          clear hfin how hB
          go_wp2_with fail
          go_returns
          refine ⟨bgo HX1.out.1 HF.out.2, .inl ⟨HTR.out, _, by simp; rfl, ?_⟩⟩
          rw [HPS.out.1, HPS.out.2]
          exact owns_base HF.out.1 (by omega)

end Go.Proofs.Ytdjgikcnmokjkaa

/-
  Contracts of package couch, sixth part: the heats of a truth.
-/
import Derived.WalkKit
import Derived.WalkLawsBesides
import Derived.WalkSpells
import Derived.Outline
import Derived.Handy
import Derived.KernelRfl
import Derived.Lib.Hide
import Derived.Test.YtoibfafmnaooaaaW6
namespace Go.Proofs.Ytoibfafmnaooaaa
open Go.RowKit Go.RG Go.SL Go.Shelf Cou
set_option maxHeartbeats 400000
set_option maxRecDepth 10000

abbrev aggI (l : List Int) : Value := .agg (intCells l).toArray

theorem Cache.noCell {W : World} {mb : Nat} {cool : Int} (h : Cache W mb cool) (o : Nat) : W.cell? ⟨mb, o, none⟩ = none := by
  obtain ⟨es, c, h1, _⟩ := h
  simp [World.cell?, h1]

theorem play_any (h : HeapD) (a b c : Value) (wb mb : Nat) (start : Int) (wet turns : List Int) (ws ts : Value) (w : World) (hw : WorkAt w wb mb h a b c) (hws : IntsAt w ws wet) (hts : IntsAt w ts turns) (hlen : wet.length ≤ 10)
    (hs0 : 0 ≤ h.size) (hs1 : h.size ≤ 20) (hc0 : 0 ≤ h.cool) (hc1 : h.cool ≤ 100) (h0 : 0 ≤ start) (h1 : start ≤ 500) (hwet : ∀ x ∈ wet, 0 ≤ x ∧ x ≤ 20) :
    Calls Try.prog 80 #[.pointer (some ⟨wb, 0, none⟩), .agg #[iv start, ws], ts] w
      (fun e w' => e = .returned (aggI (heats h (start, wet) turns)) ∧ Cache w' mb h.cool ∧ Ext [mb] w w') := by
  have hbd := heatAt_bd turns wet hs0 hs1 hc0 hc1 h0 h1 hwet
  obtain ⟨ow, cw, rfl⟩ := hws.open
  obtain ⟨ot, ct, rfl⟩ := hts.open
  have HW := Lib.hid hw
  have HS := Lib.hid hws
  have HT := Lib.hid hts
  have HB := Lib.hid hbd
  have HX := Lib.hid hwet
  have hlt := hw.lt
  have hmb := hw.cache.lt
  clear hw hws hts hbd hwet
  go_enter Try.func80, Try.ntmps80
  go_wp2_with fail
  go_loopw [7, 15] (fun v7 i wr => ∃ k : Nat, k ≤ wet.length ∧ i = .int .i64 k ∧ v7 = .int .i64 (heatAt h.size h.cool turns start wet k) ∧ WorkAt wr wb mb h a b c ∧
      wr.heap[w.heap.size + 1]? = some (.cells (intCells (heatsTo h.size h.cool turns start wet k)).toArray 127 (0, 0)) ∧ Ext [mb] w wr)
    (fun _ i _ => wet.length - (intOf i).toNat)
  case atStart =>
    exact ⟨0, Nat.zero_le _, rfl, rfl, HW.out.below (bgoAlloc (bgoAlloc (Below.refl _ _) _) _) (Nat.le_refl _), heap_new1 _ _ _, Ext.of_below (bgoAlloc (bgoAlloc (Below.refl _ _) _) _)⟩
  case round =>
    obtain ⟨k, hk, rfl, rfl, hwk, hblk, hE0⟩ := hrel
    have hmbw : ∀ x ∈ [mb], ∀ o, w.cell? ⟨x, o, none⟩ = none := fun x hx o => by
      have : x = mb := by simpa using hx
      subst this
      exact HW.out.cache.noCell o
    have hws := HS.out.ext_other hE0 hmbw
    have hts := HT.out.ext_other hE0 hmbw
    have hne := hwk.ne
    have hlt2 := hwk.lt
    have hsz := hE0.size
    have hmb2 := hwk.cache.lt
    have hb6 : w.heap.size + 1 < wr.heap.size := (Array.getElem?_eq_some_iff.1 hblk).1
    have hb6m : ¬ w.heap.size + 1 = mb := by omega
    by_cases hltk : k < wet.length
    · obtain ⟨bb, off, rfl, hbb, hcx⟩ := IntsAt.cell hws hltk
      have hx := HX.out _ (List.getElem_mem hltk)
      have hn := HB.out k
      have hnext : heatAt h.size h.cool turns start wet (k + 1) = cooled h.cool (heatAt h.size h.cool turns start wet k) (turns.contains (k : Int)) + h.size * wet[k] / 10 := by
        simp only [heatAt, stepH]
        rw [show wet.getD k 0 = wet[k] from by simp [hltk]]
      have hcd := cooled_bd hc0 hc1 hn.1 (turns.contains (k : Int))
      have hset := heatsTo_succ h.size h.cool turns start wet k (by omega)
      have hc1x := hwk.cell 1
      simp at hc1x
      rw [hnext] at hset
      have HNX := Lib.hid hnext
      generalize heatAt h.size h.cool turns start wet k = n at hn hcd hset HNX
      generalize wet[k] = x at hcx hx hset HNX
      obtain ⟨hx0, hx1⟩ := hx
      obtain ⟨hn0, hn1⟩ := hn
      obtain ⟨hd0, hd1⟩ := hcd
      have hm0 : 0 ≤ h.size * x := Int.mul_nonneg hs0 hx0
      have hm1 : h.size * x ≤ 20 * 20 := Int.mul_le_mul hs1 hx1 hx0 (by omega)
      have hk10 : (k : Int) < 10 := by omega
      have HSET := Lib.hid hset
      have HBLK := Lib.hid hblk
      have HE0 := Lib.hid hE0
      have HWK := Lib.hid hwk
      have HWS := Lib.hid hws
      have HTS := Lib.hid hts
      have HMBW := Lib.hid hmbw
      clear hnext hset hblk hE0 hwk hws hts hmbw
      have HNC : Hid (∀ x ∈ [mb], ∀ o, wr.cell? ⟨x, o, none⟩ = none) := fun x hx o => by
        have : x = mb := by simpa using hx
        subst this
        exact HWK.out.cache.noCell o
      generalize hcb : turns.contains (k : Int) = tb at hd0 hd1 HSET HNX
      have HCB := Lib.hid hcb
      clear hcb
      generalize hcd : cooled h.cool n tb = cn at hd0 hd1 HSET HNX
      have HCD := Lib.hid hcd
      clear hcd
      go_wp2_with fail
      refine wp_region_rg 16 [mb] (some 6) [(4, Spec.val (.bool tb)), (6, ⟨fun _ v => v = iv cn, fun _ _ W => Cache W mb h.cool⟩)] (by kernel_rfl) (by kernel_rfl) ?_
      simp only [List.take_succ_cons, List.take_zero, List.drop_succ_cons, List.drop_zero]
      repeat (refine tree_det (by rfl) _ (by rfl) (fun W hW => by go_simp; (try simp (disch := omega) only [IntWalk.i64_in, Int.tdiv_eq_ediv_of_nonneg]); try rfl) ?_; simp only [Act.put, List.setIfInBounds_toArray, List.set_cons_succ, List.set_cons_zero])
      refine tree_val _ (by rfl) (by rfl) 112 _ (fun W hW => by go_simp; try rfl) (fun W hE hF => by have := contains_any turns (.slice ot turns.length ct) (k : Int) W (HTS.out.ext_other hE HNC.out); rw [HCB.out] at this; exact this) ?_
      simp only [Act.put, List.setIfInBounds_toArray, List.set_cons_succ, List.set_cons_zero]
      repeat (refine tree_det (by rfl) _ (by rfl) (fun W hW => by go_simp; (try simp (disch := omega) only [IntWalk.i64_in, Int.tdiv_eq_ediv_of_nonneg]); try rfl) ?_; simp only [Act.put, List.setIfInBounds_toArray, List.set_cons_succ, List.set_cons_zero])
      refine tree_some _ (by rfl) (by rfl) ⟨_, rfl⟩ (fun W hE hF => ?_) (fun v W W' hc hE => ?_) (fun v hv => ?_)
      · have hE' : Ext [] wr W := hE
        refine does_enter 111 #[.pointer (some ⟨wb, 0, none⟩), sv n tb] (by go_simp; try rfl) ?_
        refine (cool_any h a b c wb mb n tb W (HWK.out.below hE'.below (Nat.le_refl _)) hn0 (by omega) hc0 hc1).mono ?_
        rintro e W' ⟨rfl, hcc, hE2⟩
        exact ⟨_, rfl, by rw [HCD.out], hcc, hE2⟩
      · have hE' : Ext [] W W' := hE
        exact Cache.kept hc (hE'.block mb (Cache.lt hc) (by simp))
      obtain rfl : v = iv cn := hv
      simp only [Act.put, List.setIfInBounds_toArray, List.set_cons_succ, List.set_cons_zero]
      repeat (refine tree_det (by rfl) _ (by rfl) (fun W hW => by go_simp; (try simp (disch := omega) only [IntWalk.i64_in, Int.tdiv_eq_ediv_of_nonneg]); try rfl) ?_; simp only [Act.put, List.setIfInBounds_toArray, List.set_cons_succ, List.set_cons_zero])
      intro W hE hF
      have hCW : Cache W mb h.cool := hF _ (List.Mem.head _)
      have hblkW := (hE.block (w.heap.size + 1) hb6 (by simpa using hb6m)).trans HBLK.out
      have hfr := frozen_of_block hblkW
      have hck := cell_of_ints hblkW (show k < (heatsTo h.size h.cool turns start wet k).length by rw [heatsTo_length]; omega)
      have HCW := Lib.hid hCW
      have HBW := Lib.hid hblkW
      have HEW := Lib.hid hE
      clear hF hCW hblkW hE
      go_wp2_with fail
      go_roundw
      case rel =>
        refine ⟨k + 1, by omega, by go_num, by rw [HNX.out], ?_, ?_, ?_⟩
        · exact ((HWK.out.ext HEW.out HCW.out).kept (Below.heap_setCell _ _ _ _ (by show wb ≠ w.heap.size + 1; omega)) (Below.heap_setCell _ _ _ _ (by show mb ≠ w.heap.size + 1; omega)))
        · rw [HSET.out, ← set_ints]
          exact set_block HBW.out _
        · exact (HE0.out.trans HEW.out).set (by show w.heap.size ≤ w.heap.size + 1; omega) _
      case measure => simp [intOf]; omega
    · have hkl : k = wet.length := by omega
      obtain ⟨y0, y1, y2, y3, y4, y5, y6, y7, y8, y9, hy⟩ := ten_of (heatsTo_length h.size h.cool turns start wet k)
      have hres : heats h (start, wet) turns = [y0, y1, y2, y3, y4, y5, y6, y7, y8, y9] := by rw [← hy, hkl]; rfl
      rw [hy] at hblk
      have hfr := frozen_of_block hblk
      have hcs : ∀ i, wr.cell? ⟨w.heap.size + 1, i, none⟩ = (#[iv y0, iv y1, iv y2, iv y3, iv y4, iv y5, iv y6, iv y7, iv y8, iv y9] : Array Value)[i]? := fun i => by
        simp only [World.cell?, hblk]; rfl
      have HRES := Lib.hid hres
      have HE0 := Lib.hid hE0
      have HWK := Lib.hid hwk
      clear hres hy hblk hE0 hwk hws hts hmbw
      go_wp2_with fail
      (try simp only [Exit.inBlock, Exit.then])
      refine bodyPost_ret (v := .agg #[iv y0, iv y1, iv y2, iv y3, iv y4, iv y5, iv y6, iv y7, iv y8, iv y9]) (by simp [results, Try.results80, go_sem, hcs]) rfl ⟨by rw [HRES.out]; rfl, ?_, ?_⟩
      · refine HWK.out.cache.kept ?_
        repeat rw [Below.heap_setCell _ _ _ _ (by show mb ≠ w.heap.size + 1; omega)]
      · repeat (refine Ext.set ?_ (by show w.heap.size ≤ w.heap.size + 1; omega) _)
        exact HE0.out

end Go.Proofs.Ytoibfafmnaooaaa

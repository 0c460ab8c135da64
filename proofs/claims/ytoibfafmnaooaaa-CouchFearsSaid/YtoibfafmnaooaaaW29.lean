/-
  Contracts of package couch, twenty-eighth part: Fewest.
-/
import Derived.WalkKit
import Derived.WalkLawsBesides
import Derived.WalkSpells
import Derived.Outline
import Derived.Handy
import Derived.KernelRfl
import Derived.Lib.Hide
import Derived.Test.YtoibfafmnaooaaaW28
namespace Go.Proofs.Ytoibfafmnaooaaa
open Go.RowKit Go.RG Go.SL Go.Shelf Cou
set_option maxHeartbeats 400000
set_option maxRecDepth 10000
attribute [local go_sem] Oper.semAt_some

theorem fewest1_any (h : HeapD) (hS : Sound h) (a b c : Value) (wb mb : Nat) (es : List TE) (o : Option Addr) (cp : Nat) (turns : List Int) (tv : Value) (bw bt : Nat) (W : World) (hb1 : W.heap[bw]? = some (.cells #[.pointer (some ⟨wb, 0, none⟩)] 106 (0, 0))) (hb2 : W.heap[bt]? = some (.cells #[.slice o es.length cp] 135 (0, 0)))
    (hwk : WorkAt W wb mb h a b c) (h1 : PairsAt W a h.wet) (h2 : IntsAt W b h.turns) (h3 : TriplesAt W c h.readings) (hev : TEAt W (.slice o es.length cp) es)
    (hes : ∀ e ∈ es, IntsAt W e.2.1 e.2.2 ∧ e.2.2.length ≤ 10 ∧ (0 ≤ e.1 ∧ e.1 ≤ 500) ∧ ∀ x ∈ e.2.2, 0 ≤ x ∧ x ≤ 20) (htv : IntsAt W tv turns) :
    Calls Try.prog 91 #[tv, .pointer (some ⟨bw, 0, none⟩), .pointer (some ⟨bt, 0, none⟩)] W (fun x w' => x = .returned (.bool (es.all fun e => keptL h (heats h (e.1, e.2.2) turns))) ∧ Cache w' mb h.cool ∧ Ext [mb] W w') := by
  have HSF := Lib.hid (safe_any h hS a b c wb mb es (.slice o es.length cp) turns tv W hwk h1 h2 h3 hev hes htv)
  have c1 := cell_of_block0 hb1
  have c2 := cell_of_block0 hb2
  have s1 := World.block_lt_of_cell? W _ c1
  have s2 := World.block_lt_of_cell? W _ c2
  obtain ⟨ot, ct, rfl⟩ := htv.open
  generalize (es.all fun e => keptL h (heats h (e.1, e.2.2) turns)) = q at *
  clear hb1 hb2 hwk h1 h2 h3 hev hes htv
  go_enter Try.func91, Try.ntmps91
  go_wp2_with fail
  refine HSF.out.mono ?_
  rintro e W' ⟨rfl, hc, hE⟩
  have HR := Lib.hid (And.intro hc hE)
  clear hc hE
  go_wp2_with fail
  go_returns
  exact ⟨by simp, HR.out⟩

set_option maxHeartbeats 4000000 in
theorem Fewest_any (h : HeapD) (wv tv xv' : Value) (w : World) (hw : PairsAt w wv h.wet) (ht : IntsAt w tv h.turns) (hx : TriplesAt w xv' h.readings) :
    Calls Try.prog 54 #[hv h wv tv xv'] w (fun e w' => ∃ v, e = .returned (.tuple #[v, iv (fewErr h)]) ∧ IntsAt w' v (fewL h) ∧ Below w.heap.size w w') := by
  obtain ⟨ow, cw, rfl⟩ := hw.open
  obtain ⟨ot, ct, rfl⟩ := ht.open
  obtain ⟨ox, cx, rfl⟩ := hx.open
  have HW := Lib.hid hw
  have HT := Lib.hid ht
  have HX := Lib.hid hx
  clear hw ht hx
  obtain ⟨E, hE⟩ : ∃ E, fewErr h = E := ⟨_, rfl⟩
  obtain ⟨L, hL⟩ : ∃ L, fewL h = L := ⟨_, rfl⟩
  rw [hE, hL]
  have HE := Lib.hid hE
  have HL := Lib.hid hL
  clear hE hL
  refine (callsIn_wide (n := 0)).1 ?_
  refine callsIn_of_wp_marks Try.func54 rfl trivial ?_
  simp only [Try.ntmps54, List.size_toArray, List.length_cons, List.length_nil, Nat.reduceAdd, Nat.reduceSub, Array.replicate_succ, Array.replicate_zero, List.push_toArray, List.append_toArray, List.nil_append, List.cons_append]
  gi_wp2_with fail
  refine (callsIn_wide.2 (asked_any h _ _ _ _ [] _ (HW.out.alloc _) (HT.out.alloc _) (HX.out.alloc _) (ints_nil _))).mono ?_
  rintro e w1 ⟨hb, ⟨hne, rfl⟩ | ⟨h0, wb, mb, rfl, hwb, hmb, hwk⟩⟩
  · have he : E = askErr h [] := by rw [← HE.out]; unfold fewErr; rw [if_pos hne]
    have hl : L = [] := by rw [← HL.out]; unfold fewL; rw [if_pos hne]
    subst hl
    obtain ⟨E', hE'⟩ : ∃ E', askErr h [] = E' := ⟨_, rfl⟩
    rw [hE'] at hne he ⊢
    subst he
    have HB := Lib.hid hb
    clear hb
    gi_wp2_with fail
    refine ⟨.tuple #[.slice none 0 0, iv E], by simp [results, Try.results54, go_sem], ?_⟩
    exact ⟨.slice none 0 0, by simp, ints_nil _, bgoAlloc (bgo (bgoAlloc (Below.refl _ _) _) HB.out) _⟩
  · have hS := ask_sound h0
    have hmb' : w.heap.size + 1 ≤ mb := by simpa using hmb
    have hb0 : w1.heap[w.heap.size]? = some (.cells #[.int .i64 h.last, .int .i64 h.size, .int .i64 h.cool, .int .i64 h.die, .int .i64 h.burn, .int .i64 h.start.1, .int .i64 h.start.2, .slice ow h.wet.length cw, .slice ot h.turns.length ct, .slice ox h.readings.length cx] 40 (0, 0)) := (hb.block _ (by simp)).trans (heap_new0 _ _)
    have hbw : Below w.heap.size w w1 := bgo (bgoAlloc (Below.refl _ _) _) hb
    have H1 := Lib.hid (HW.out.below hbw (Nat.le_refl _))
    have H2 := Lib.hid (HT.out.below hbw (Nat.le_refl _))
    have H3 := Lib.hid (HX.out.below hbw (Nat.le_refl _))
    have HBW := Lib.hid hbw
    have HB0 := Lib.hid hb0
    have HWK := Lib.hid hwk
    have HSS := Lib.hid hS
    have hw0 := (Array.getElem?_eq_some_iff.1 hb0).1
    have hmbw := hwk.cache.lt
    have HEL : Hid (E = (if (fewS h).isSome then 0 else 10) ∧ L = (fewS h).getD []) := Lib.hid ⟨by rw [← HE.out]; unfold fewErr; rw [if_neg (by rw [h0]; simp)], by rw [← HL.out]; unfold fewL; rw [if_neg (by rw [h0]; simp)]⟩
    clear hb hwk h0 hS hb0 hbw hwb hmb
    gi_wp2_with fail
    refine (callsIn_wide.2 (truths_any wb _ _ _ _)).mono ?_
    rintro e w1' ⟨rfl, rfl⟩
    gi_wp2_with fail
    obtain ⟨w2, hw2⟩ : ∃ w2, ((((w1.alloc (.cells #[.pointer (some ⟨wb, 0, none⟩)] 106)).alloc (.cells #[.slice none 0 0] 135)).alloc (.cells #[.pointer (some ⟨wb, 0, none⟩)] 106)).alloc (.cells #[.slice none 0 0] 25)) = w2 := ⟨_, rfl⟩
    have hB2 : Below w1.heap.size w1 w2 := by rw [← hw2]; exact (by repeat (first | exact Below.refl _ _ | assumption | refine bgo ?_ (by assumption) | refine bgoAlloc ?_ _ | refine bgoDrew ?_ | refine bgoSet ?_ (by simp; omega) _))
    have hsz2 : w2.heap.size = w1.heap.size + 4 := by rw [← hw2]; simp
    have hP2 : Few w1 wb [] [mb] w2 := by
      rw [← hw2]
      have n3 := heap_new0 (((w1.alloc (.cells #[.pointer (some ⟨wb, 0, none⟩)] 106)).alloc (.cells #[.slice none 0 0] 135)).alloc (.cells #[.pointer (some ⟨wb, 0, none⟩)] 106)) (.cells #[.slice none 0 0] 25)
      simp only [World.size_alloc] at n3
      refine ⟨?_, ⟨.slice none 0 0, ?_, ⟨rfl, .inl ⟨rfl, rfl⟩⟩, (fun g hg => by cases hg), (fun e he => by cases he)⟩, ?_, n3⟩
      · exact (Below.heap_alloc _ _ _ (by first | omega | (simp; done) | (simp; omega))).trans ((Below.heap_alloc _ _ _ (by first | omega | (simp; done) | (simp; omega))).trans ((Below.heap_alloc _ _ _ (by first | omega | (simp; done) | (simp; omega))).trans (heap_new0 _ _)))
      · exact (Below.heap_alloc _ _ _ (by first | omega | (simp; done) | (simp; omega))).trans ((Below.heap_alloc _ _ _ (by first | omega | (simp; done) | (simp; omega))).trans (heap_new1 _ _ _))
      · exact (Below.heap_alloc _ _ _ (by first | omega | (simp; done) | (simp; omega))).trans (heap_new2 _ _ _ _)
    rw [hw2]
    clear hw2
    refine wpIn_rangeC (truths_seq h HSS.out (.slice ow h.wet.length cw) (.slice ot h.turns.length ct) (.slice ox h.readings.length cx) (.slice none 0 0) [] wb mb (w1.heap.size + 1 + 1) (w1.heap.size + 1 + 1 + 1)) rfl (enters_of Try.func116 (by kernel_rfl) rfl) rfl (by simp; omega)
      (fun Ms k W => Fr w1 mb h.cool [w1.heap.size, w1.heap.size + 1, w1.heap.size + 2, w1.heap.size + 3, w1.heap.size + 4, w1.heap.size + 5] Ms W ∧ ∃ es : List TE, es.map (fun e => (e.1, e.2.2)) = (truthsL h []).take k ∧ Few w1 wb es Ms W)
      (fun _ _ _ => False)
      ?hInv ?hInvx ?hI ?hIx ?hIp ?hIxp ?h0
      (fun a Ms k W1 a₁ W => ∃ (t : Int × List Int) (ob bt : Nat), (truthsL h [])[k]? = some t ∧ a₁ = { tmps := (a.tmps.setIfInBounds 20 (.agg #[iv t.1, .slice (some ⟨ob, 1, none⟩) t.2.length t.2.length])).setIfInBounds 7 (.pointer (some ⟨bt, 0, none⟩)), defers := [] } ∧
        (Fr w1 mb h.cool [w1.heap.size, w1.heap.size + 1, w1.heap.size + 2, w1.heap.size + 3, w1.heap.size + 4, w1.heap.size + 5] Ms W ∧ ∃ es : List TE, es.map (fun e => (e.1, e.2.2)) = (truthsL h []).take k ∧ Few w1 wb es Ms W) ∧
        (W.heap[bt]? = some (.cells #[iv t.1, .slice (some ⟨ob, 1, none⟩) t.2.length t.2.length] 71 (0, 0)) ∧ (w1.heap.size + 6 ≤ bt ∧ ob ∈ Ms ∧ ob ≠ mb) ∧ IntsAt W (.slice (some ⟨ob, 1, none⟩) t.2.length t.2.length) t.2) ∧ (∀ m ∈ Ms, m ∉ [mb] → m < W1.heap.size → W.heap[m]? = W1.heap[m]?) ∧ W1.heap.size ≤ W.heap.size)
      ?hMp ?hassign ?hbody ?hdone ?hstop
    case hInv => rintro Ms k W ⟨hF, es, hes, hP⟩; exact hF.tinv HWK.out H1.out H2.out H3.out (ints_nil w1) hP.b3 hP.b4
    case hInvx => rintro cd Ms W h; exact h.elim
    case hI =>
      rintro Ms Ms' k Wa Wb ⟨hF, es, hes, hP⟩ hE hMs hc
      exact ⟨(hF.step hE hMs hc).1, es, hes, hP.kept hE.size (fun b h1 h2 => (hF.step hE hMs hc).2 b (by simp; omega)) (fun g h1 h2 h3 => hE.block g h2 h3) hMs⟩
    case hIx => rintro cd Ms Ms' Wa Wb h; exact h.elim
    case hIp =>
      rintro Ms k W r o ⟨hF, es, hes, hP⟩ hr
      exact ⟨hF.put o (by omega) hmbw, es, hes, hP.kept (by simp) (fun b h1 h2 => World.putObj_heap_other (by omega)) (fun g h1 h2 h3 => World.putObj_heap_other (by omega)) (fun m hm => .inl hm)⟩
    case hIxp => rintro cd Ms W r o h; exact h.elim
    case h0 =>
      intro o o'
      have hB : Below w1.heap.size w1 ((w2.alloc o).alloc o') := bgoAlloc (bgoAlloc hB2 _) _
      exact ⟨⟨Ext.of_below hB, fun m hm => .inl (by simpa using hm), fun m hm => (by have := hB.size; simp at hm; omega), fun b hb => ⟨by simp at hb ⊢; omega, by simp at hb ⊢; omega⟩, HWK.out.cache.kept (hB.block mb hmbw)⟩,
        [], by simp, hP2.kept (by simp; omega) (fun b h1 h2 => (Below.heap_alloc _ _ _ (by simp; omega)).trans (Below.heap_alloc _ _ _ (by omega))) (fun g h1 h2 h3 => by omega) (fun m hm => .inl hm)⟩
    case hMp =>
      rintro Ms k W1 a₁ W o ⟨t, ob, bt, ht, ha, ⟨hF, es, hes, hP⟩, ⟨hbt, ⟨hb7, hob, hne⟩, hsl⟩, hk, hs⟩
      have hap := (hF.apart (w1.heap.size + 5) (by simp)).1
      refine ⟨t, ob, bt, ht, ha, ⟨hF.put o (by omega) hmbw, es, hes, hP.kept (by simp) (fun b h1 h2 => World.putObj_heap_other (by omega)) (fun g h1 h2 h3 => World.putObj_heap_other (by omega)) (fun m hm => .inl hm)⟩,
        ⟨(World.putObj_heap_other (by omega)).trans hbt, ⟨hb7, hob, hne⟩, hsl.kept fun b off n c hv _ => by cases hv; exact World.putObj_heap_other (fun e => hap (by rw [show w1.heap.size + 5 = ob by omega]; exact hob))⟩,
        fun m hm h0 hml => (World.putObj_heap_other (fun e => hap (by rw [show w1.heap.size + 5 = m by omega]; exact hm))).trans (hk m hm h0 hml), by simpa using hs⟩
    case hassign =>
      rintro Ms k v W hk ⟨hF, es, hes, hP⟩ ⟨ob, rfl, hsl, hob, hne⟩ hlt
      generalize ht : (truthsL h [])[k] = t at *
      have htk : (truthsL h [])[k]? = some t := by rw [List.getElem?_eq_getElem hk, ht]
      gi_wp2
      have hB : Below W.heap.size W (W.alloc (.cells #[iv t.1, .slice (some ⟨ob, 1, none⟩) t.2.length t.2.length] 71)) := bgoAlloc (Below.refl _ _) _
      have hc := hF.cache.kept (hB.block mb hF.cache.lt)
      exact ⟨⟨t, ob, W.heap.size, htk, rfl, ⟨(hF.step (Ext.of_below hB) (fun m hm => .inl hm) hc).1, es, hes, hP.kept (by simp) (fun b h1 h2 => Below.heap_alloc _ _ _ (by omega)) (fun g h1 h2 h3 => Below.heap_alloc _ _ _ (by omega)) (fun m hm => .inl hm)⟩,
        ⟨heap_new0 _ _, ⟨by omega, hob, hne⟩, hsl.alloc _⟩, fun m hm h0 hml => Below.heap_alloc _ _ _ (by omega), by simp⟩, Below.heap_alloc _ _ _ (by omega), Below.heap_alloc _ _ _ (by omega)⟩
    case hbody =>
      rintro Ms k W1 a₁ W busy hk ⟨t, ob, bt, ht, rfl, ⟨hF, es, hes, hP⟩, ⟨hbt, ⟨hb7, hob, hne⟩, hsl⟩, hkeep, hsz⟩ hrec hD
      simp only [List.setIfInBounds_toArray, List.set_cons_succ, List.set_cons_zero]
      obtain ⟨v, hv1, hv2, hv3, hv4⟩ := hP.out
      obtain ⟨vo, vc, rfl⟩ := owns_slice hv2
      have htm : t ∈ truthsL h [] := List.mem_of_getElem? ht
      obtain ⟨hl2, hs0, hrest⟩ := truth_bd HSS.out htm
      have hlast := HSS.out.last9
      have hwl := HSS.out.wetLen
      have hlk : es.length ≤ 2000 := by
        have h5 := congrArg List.length hes
        rw [List.length_map, List.length_take] at h5
        have := truthsL_len HSS.out []
        omega
      have d1 := cell_of_block0 hv1
      have d2 := frozen_of_block hv1 0
      have d3 := World.block_lt_of_cell? W _ d1
      have kt := (Array.getElem?_eq_some_iff.1 hbt).1
      have hg : ∀ i, W.cell? ⟨bt, i, none⟩ = (#[iv t.1, .slice (some ⟨ob, 1, none⟩) t.2.length t.2.length] : Array Value)[i]? := fun i => by
        simp only [World.cell?, hbt]; rfl
      have hw6 : w1.heap.size + 6 ≤ W.heap.size := by omega
      have htl : t.2.length ≤ 10 := by omega
      clear hl2
      have HT2 := Lib.hid (And.intro ht hk)
      have HF := Lib.hid hF
      have HP := Lib.hid hP
      have HES := Lib.hid hes
      have HSL := Lib.hid hsl
      have HV := Lib.hid (And.intro hv1 (And.intro hv2 hv3))
      have HK := Lib.hid (And.intro hkeep (And.intro hrec hD))
      clear hF hP hkeep hrec hD hbt hsl ht hrest htm hes hv1 hv2 hv3 hv4
      gi_wp2_with fail
      refine wpIn_region_rgR 8 [] none [(5, ⟨fun _ v => ∃ o c, v = .slice o t.2.length c, fun _ v Wx => Wx.ownsRow W.heap.size 3 1 v t.2.length (intCells t.2)⟩), (7, ⟨fun _ v => ∃ b : Nat, v = .slice (some ⟨b, 0, none⟩) 1 1, fun xs v Wx => ∃ (b : Nat) (x : Value), xs = [.agg #[iv t.1, x]] ∧ v = .slice (some ⟨b, 0, none⟩) 1 1 ∧ Wx.heap[b]? = some (.cells #[iv t.1, x] 71 (0, 0))⟩)] (by kernel_rfl) (by kernel_rfl) (by kernel_rfl) ?_
      simp only [List.take_succ_cons, List.take_zero, List.drop_succ_cons, List.drop_zero]
      repeat (refine tree_det (by rfl) _ (by rfl) (fun W hW => by go_simp; (try simp (disch := omega) only [IntWalk.i64_in, Int.tdiv_eq_ediv_of_nonneg]); try rfl) ?_; simp only [Act.put, List.setIfInBounds_toArray, List.set_cons_succ, List.set_cons_zero])
      refine tree_some _ (by rfl) (by rfl) (by exact ⟨.slice none t.2.length 0, none, 0, rfl⟩) (fun W5 hE hF => ?_) (fun v Wa Wb ho hE => owns_ext (Ms := []) ho hE (by simp)) (fun v hv => ?_)
      · have hE' : Ext [] W W5 := hE
        refine does_enter 81 #[.slice (some ⟨ob, 1, none⟩) t.2.length t.2.length] (by go_simp; try rfl) ?_
        refine (clone_any t.2 _ W5 (HSL.out.below hE'.below (Nat.le_refl _)) (by omega)).mono ?_
        rintro e W6 ⟨v, rfl, ho, hb⟩
        exact ⟨v, rfl, owns_slice ho, owns_base ho hE'.size, Ext.of_below hb⟩
      obtain ⟨o5, c5, rfl⟩ := hv
      simp only [Act.put, List.setIfInBounds_toArray, List.set_cons_succ, List.set_cons_zero]
      repeat (refine tree_det (by rfl) _ (by rfl) (fun W hW => by go_simp; (try simp (disch := omega) only [IntWalk.i64_in, Int.tdiv_eq_ediv_of_nonneg]); try rfl) ?_; simp only [Act.put, List.setIfInBounds_toArray, List.set_cons_succ, List.set_cons_zero])
      refine tree_some _ (by rfl) (by rfl) (by exact ⟨.slice (some ⟨0, 0, none⟩) 1 1, 0, rfl⟩) (fun W5 hE hF => ?_) (fun v Wa Wb ho hE => ?_) (fun v hv => ?_)
      · refine does_value (W' := W5.alloc (.cells #[iv t.1, .slice o5 t.2.length c5] 71)) (.slice (some ⟨W5.heap.size, 0, none⟩) 1 1) (by go_simp; try rfl) ⟨⟨_, rfl⟩, ⟨_, _, rfl, rfl, heap_alloc_new _ _⟩, Ext.of_below ((Below.refl _ _).alloc (Nat.le_refl _) _)⟩
      · obtain ⟨b, x, hx, hv, hc⟩ := ho
        exact ⟨b, x, hx, hv, (hE.block b (Array.getElem?_eq_some_iff.1 hc).1 (by simp)).trans hc⟩
      obtain ⟨b7, rfl⟩ := hv
      simp only [Act.put, List.setIfInBounds_toArray, List.set_cons_succ, List.set_cons_zero]
      intro W8 hE8 hF8
      have hE : Ext [] W W8 := hE8
      obtain ⟨b7', x7, hx7, hb7', hblk7⟩ := hF8 _ (List.Mem.head _)
      cases hb7'
      have hx7' : x7 = .slice o5 t.2.length c5 := by
        have h9 : [Value.agg #[iv t.1, .slice o5 t.2.length c5]] = [Value.agg #[iv t.1, x7]] := hx7
        simp at h9
        exact h9.symm
      subst hx7'
      have hcl : W8.ownsRow W.heap.size 3 1 (.slice o5 t.2.length c5) t.2.length (intCells t.2) := hF8 _ (List.Mem.tail _ (List.Mem.head _))
      obtain ⟨hc, hf⟩ := bcell hE.below
      have hz8 := hE.size
      have hown8 := owns_ext (Ms := []) HV.out.2.1 hE (by simp)
      have HE8 := Lib.hid hE
      have HOW := Lib.hid hown8
      have HCL := Lib.hid hcl
      have HB7 := Lib.hid hblk7
      clear hE hE8 hF8 hown8 hcl hblk7 hx7 hg
      gi_wp2_with (gi_at_builtin; go_loud (refine wpListIn_append (fun _ => trivial) rfl calls_round rfl _ _ tTruths rfl (w1.heap.size + 6) (.slice vo es.length vc) es.length (teCells es) rfl HOW.out (.slice (some ⟨b7, 0, none⟩) 1 1) 1 [iv t.1, .slice o5 t.2.length c5] rfl (SlAt.of_block 2 1 HB7.out rfl (by decide)) (by intro u hu; simp at hu; rcases hu with rfl | rfl <;> rfl) (by omega) (by omega) (by omega) ?_))
      intro v' W9 hown hgr hown'
      obtain ⟨o9, c9, rfl⟩ := owns_slice hown
      have HO9 := Lib.hid hown
      have HG9 := Lib.hid hgr
      have HN9 := Lib.hid hown'
      have hg7 := owns_ge HV.out.2.1
      have hkeep9 : ∀ b, b < w1.heap.size + 6 → b < W.heap.size → W9.heap[b]? = W.heap[b]? := fun b hb hb7 =>
        (hgr.block b (by omega) (fun e => by have := hg7 b e.symm; omega)).trans (HE8.out.block b hb7 (by simp))
      have hz10 : W8.heap.size ≤ W9.heap.size := hgr.size
      have e1 : W9.cell? ⟨w1.heap.size + 1, 0, none⟩ = some (.slice vo es.length vc) := cell_of_block0 ((hkeep9 _ (by omega) d3).trans HV.out.1)
      have e2 : W9.frozen? ⟨w1.heap.size + 1, 0, none⟩ = false := frozen_of_block ((hkeep9 _ (by omega) d3).trans HV.out.1) 0
      have e3 := World.block_lt_of_cell? W9 _ e1
      clear hown hgr hown' hkeep9 hc hf
      gi_wp2_with fail
      obtain ⟨⟨hF9, hP9⟩, hks, hsz9⟩ := few_push (e := (t.1, .slice o5 t.2.length c5, t.2)) HF.out HP.out HV.out.1 (fun g hg => ⟨hg7 g hg, (HV.out.2.2 g hg).1⟩) HE8.out HG9.out HN9.out HO9.out HCL.out hmbw hw6
      have hap := HF.out.apart
      refine ⟨⟨?_, ?_, fun m hm h0 hml => ?_, by omega⟩, hF9, es ++ [(t.1, .slice o5 t.2.length c5, t.2)], ?_, hP9⟩
      · refine (hks _ (hap (w1.heap.size + 5) (by simp)).2 (fun e => by have := hg7 _ e; omega) (by omega)).trans ?_
        rw [show w1.heap.size + 5 = w2.heap.size + 1 by omega]; exact HK.out.2.1
      · refine (hks _ (hap (w1.heap.size + 4) (by simp)).2 (fun e => by have := hg7 _ e; omega) (by omega)).trans ?_
        rw [← hsz2]; exact HK.out.2.2
      · exact (hks m (by omega) (fun e => (HV.out.2.2 m e).1 hm) (fun e => (hap (w1.heap.size + 1) (by simp)).1 (by rw [← e]; exact hm))).trans (HK.out.1 m hm h0 hml)
      · rw [List.map_append, HES.out, List.take_succ_eq_append_getElem HT2.out.2]
        have := HT2.out.1
        rw [List.getElem?_eq_getElem HT2.out.2] at this
        injection this with this
        rw [this]
        rfl
    case hdone =>
      rintro Ms W ⟨hF, es, hes, hP⟩ hD hlt
      rw [List.take_length] at hes
      rw [hsz2] at hD
      obtain ⟨v, hv1, hv2, hv3, hv4⟩ := hP.out
      obtain ⟨vo, vc, rfl⟩ := owns_slice hv2
      have hb0 := (hF.ext.block w.heap.size hw0 (by simp; omega)).trans HB0.out
      have hc0 : ∀ i, W.cell? ⟨w.heap.size, i, none⟩ = (#[.int .i64 h.last, .int .i64 h.size, .int .i64 h.cool, .int .i64 h.die, .int .i64 h.burn, .int .i64 h.start.1, .int .i64 h.start.2, .slice ow h.wet.length cw, .slice ot h.turns.length ct, .slice ox h.readings.length cx] : Array Value)[i]? := fun i => by
        simp only [World.cell?, hb0]; rfl
      have t0 := (Array.getElem?_eq_some_iff.1 hb0).1
      have hl0 := HSS.out.last0
      have hl9 := HSS.out.last9
      obtain ⟨n, hn⟩ : ∃ n : Nat, h.last + 1 = n := ⟨(h.last + 1).toNat, by omega⟩
      have hm : ∀ x ∈ [mb], ∀ o, W.cell? ⟨x, o, none⟩ = none := fun x hx o => by
        obtain rfl : x = mb := by simpa using hx
        exact hF.cache.noCell o
      have hmw : ∀ x ∈ [mb], ∀ o, w1.cell? ⟨x, o, none⟩ = none := fun x hx o => by
        obtain rfl : x = mb := by simpa using hx
        exact HWK.out.cache.noCell o
      have hbd : ∀ e ∈ es, e.2.2.length ≤ 10 ∧ (0 ≤ e.1 ∧ e.1 ≤ 500) ∧ ∀ x ∈ e.2.2, 0 ≤ x ∧ x ≤ 20 := fun e he => by
        have hmem : (e.1, e.2.2) ∈ truthsL h [] := by rw [← hes]; exact List.mem_map.2 ⟨e, he, rfl⟩
        obtain ⟨k1, k2, k3⟩ := truth_bd HSS.out hmem
        have := HSS.out.wetLen
        simp only at k1 k2 k3
        exact ⟨by omega, k2, k3⟩
      have hsf : ∀ l, (es.all fun e => keptL h (heats h (e.1, e.2.2) l)) = safeL h l := fun l => by
        unfold safeL
        rw [← hes, List.all_map]
        rfl
      have hsh := fun (W3 : World) (hB : Below W.heap.size W W3) => shortest_any n (by omega) (safeL h) mb h.cool W3 (hF.cache.kept (hB.block mb hF.cache.lt)) 91 #[] #[.pointer (some ⟨w1.heap.size, 0, none⟩), .pointer (some ⟨w1.heap.size + 1, 0, none⟩)] (enters_of Try.func91 (by kernel_rfl) rfl)
        (fun l v W' hE hcc hv => by
          have hEW : Ext [mb] W W' := (Ext.of_below hB).trans hE
          have hEw : Ext [mb] w1 W' := hF.ext.trans hEW
          refine (fewest1_any h HSS.out _ _ _ wb mb es vo vc l v w1.heap.size (w1.heap.size + 1) W' ((hEW.block _ (Array.getElem?_eq_some_iff.1 hP.b0).1 (by simp; omega)).trans hP.b0) ((hEW.block _ (Array.getElem?_eq_some_iff.1 hv1).1 (by simp; omega)).trans hv1)
            (HWK.out.ext hEw hcc) (H1.out.ext_other hEw hmw) (H2.out.ext_other hEw hmw) (H3.out.ext_other hEw hmw) (SlAt.ext_other (SlAt.of_owns hv2) hEW hm) (fun e he => ⟨SlAt.ext_other (SlAt.of_owns (hv4 e he).1) hEW hm, hbd e he⟩) hv).mono ?_
          rintro x W'' ⟨rfl, k1, k2⟩
          exact ⟨by rw [hsf], k1, k2⟩)
      have HSH := Lib.hid hsh
      have HF := Lib.hid hF
      have HD := Lib.hid hD
      have hn' : (h.last + 1).toNat = n := by omega
      have HFS : Hid (fewS h = shortL n (safeL h)) := Lib.hid (by unfold fewS; rw [hn'])
      clear hsh hF hP hD hv1 hv2 hv3 hv4 hb0 hbd hsf hm hmw hes hn'
      gi_wp2_with fail
      refine (callsIn_wide.2 (hours_n h _ _ _ n _ hl0 hl9 hn)).mono ?_
      rintro e W3 ⟨rfl, hb3⟩
      have HB3 := Lib.hid hb3
      clear hb3 hc0
      gi_wp2_with fail
      refine (callsIn_wide.2 (HSH.out W3 HB3.out)).mono ?_
      rintro e W4 ⟨⟨hcc, hE4⟩, hres⟩
      have hEx : Ext [mb] W W4 := (Ext.of_below HB3.out).trans hE4
      have hD4 : W4.heap[w1.heap.size + 4]? = some (.deferred (some [])) := (hEx.block _ (Array.getElem?_eq_some_iff.1 HD.out).1 (by simp; omega)).trans HD.out
      have hB4 : Below w.heap.size w W4 := below_of_ext (below_of_ext HBW.out HF.out.ext (by omega)) hEx (by omega)
      have HD4 := Lib.hid hD4
      have HB4 := Lib.hid hB4
      clear hcc hE4 hEx hD4 hB4
      rw [← HFS.out] at hres
      rcases hres with ⟨c0, sv, hfs, rfl, hiv⟩ | ⟨hnone, o', n', c', rfl⟩
      · have he0 : E = 0 := by rw [HEL.out.1, hfs]; rfl
        have hl0' : L = c0 := by rw [HEL.out.2, hfs]; rfl
        subst he0
        subst hl0'
        obtain ⟨so, sc, rfl⟩ := hiv.open
        have HIV := Lib.hid hiv
        clear hiv hfs
        gi_wp2_with fail
        refine ⟨by simp, .inl ⟨_, _, rfl, run_takeDeferred HD4.out, ?_⟩⟩
        refine ⟨.tuple #[.slice so L.length sc, iv 0], by simp [results, Try.results54, go_sem], ⟨_, rfl, ?_, below_of_ext HB4.out (ext_put W4 _ _) (by have := HBW.out.size; omega)⟩⟩
        exact SlAt.ext_other HIV.out (ext_put W4 _ _) (fun x hx o => by
          obtain rfl : x = w1.heap.size + 4 := by simpa using hx
          simp [World.cell?, HD4.out])
      · have he0 : E = 10 := by rw [HEL.out.1, hnone]; rfl
        have hl0' : L = [] := by rw [HEL.out.2, hnone]; rfl
        subst he0
        subst hl0'
        clear hnone
        gi_wp2_with fail
        refine ⟨by simp, .inl ⟨_, _, rfl, run_takeDeferred HD4.out, ?_⟩⟩
        exact ⟨.tuple #[.slice none 0 0, iv 10], by simp [results, Try.results54, go_sem], ⟨_, rfl, ints_nil _, below_of_ext HB4.out (ext_put W4 _ _) (by have := HBW.out.size; omega)⟩⟩
    case hstop => rintro cd Ms W h; exact h.elim

end Go.Proofs.Ytoibfafmnaooaaa

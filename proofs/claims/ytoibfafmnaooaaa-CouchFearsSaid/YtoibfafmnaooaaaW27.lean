/-
  Contracts of package couch, twenty-sixth part: safe.
-/
import Derived.WalkKit
import Derived.WalkLawsBesides
import Derived.WalkSpells
import Derived.Outline
import Derived.Handy
import Derived.KernelRfl
import Derived.Lib.Hide
import Derived.Test.YtoibfafmnaooaaaW26
namespace Go.Proofs.Ytoibfafmnaooaaa
open Go.RowKit Go.RG Go.SL Go.Shelf Cou
set_option maxHeartbeats 400000
set_option maxRecDepth 10000

/-- A truth in a slice: its start, the slice of its wetnesses, and these. -/
abbrev TE := Int × Value × List Int
abbrev tev (e : TE) : Value := .agg #[iv e.1, e.2.1]
def teCells (es : List TE) : List Value := es.flatMap fun e => [iv e.1, e.2.1]
def TEAt (w : World) (v : Value) (es : List TE) : Prop := SlAt 2 w v es.length (teCells es)
theorem TEAt.len {w : World} {v : Value} {es : List TE} (h : TEAt w v es) : es.length ≤ 9223372036854775807 := SlAt.len h
theorem TEAt.open {w : World} {v : Value} {es : List TE} (h : TEAt w v es) : ∃ o c, v = .slice o es.length c := SlAt.open h
theorem TEAt.cell {w : World} {o : Option Addr} {c : Nat} {es : List TE} (h : TEAt w (.slice o es.length c) es) {k : Nat} (hk : k < es.length) :
    ∃ b off, o = some ⟨b, off, none⟩ ∧ b < w.heap.size ∧ w.cell? ⟨b, off + k * 2, none⟩ = some (iv es[k].1) ∧ w.cell? ⟨b, off + k * 2 + 1, none⟩ = some es[k].2.1 := by
  obtain ⟨hl, o', c', hv, h1, h2, h3, h4⟩ := h
  cases hv
  cases o with
  | none => have := h3 rfl; omega
  | some a =>
    obtain ⟨b, off, sp⟩ := a
    obtain ⟨hs, hc⟩ := h4 _ rfl
    simp only at hs hc
    subst hs
    have h0 := hc (k * 2 + 0) (iv es[k].1) (by unfold teCells; rw [flat_get _ 2 (fun _ => rfl) es k 0 hk (by omega)]; rfl)
    have h1 := hc (k * 2 + 1) es[k].2.1 (by unfold teCells; rw [flat_get _ 2 (fun _ => rfl) es k 1 hk (by omega)]; rfl)
    rw [Nat.add_zero] at h0
    rw [← Nat.add_assoc] at h1
    exact ⟨b, off, rfl, World.block_lt_of_cell? w _ h0, h0, h1⟩

theorem idxT (l : List TE) (v : Value) (fid : Nat) (fst caps : Array Value) (p : Nat → Bool) (I : Nat → World → Prop) (w : World) (eg : ∀ args w, (callFunc fid args).run Try.prog w = .ok (.enter fid args) w)
    (hsl : ∀ k W, I k W → TEAt W v l)
    (hcall : ∀ k (hk : k < l.length) W, (∀ j, j < k → p j = false) → I k W → Calls Try.prog fid (fst.push (tev l[k]) ++ caps) W (fun e W' => e = .returned (.bool (p k)) ∧ I (k + 1) W')) (h0 : I 0 w) :
    Calls Try.prog 137 #[v, .func (.func fid) fst caps] w (IdxPost l.length p I (fun k => iv k) (iv (-1))) := by
  have hlen := (hsl 0 w h0).len
  obtain ⟨o, c, rfl⟩ := (hsl 0 w h0).open
  have HC := Lib.hid hcall
  have HS := Lib.hid hsl
  clear hcall hsl
  go_enter Try.func137, Try.ntmps137
  go_wp2
  go_loopw [4, 5, 8] (fun _ _ i wr => ∃ k : Nat, k ≤ l.length ∧ i = .int .i64 k ∧ (∀ j, j < k → p j = false) ∧ I k wr) (fun _ _ i _ => l.length - (intOf i).toNat)
  case atStart => exact ⟨0, Nat.zero_le _, rfl, fun j hj => by omega, h0⟩
  case round =>
    obtain ⟨k, hk, rfl, hno, hI⟩ := hrel
    by_cases hlt : k < l.length
    · obtain ⟨b, off, rfl, hb, hc0, hc1⟩ := TEAt.cell (HS.out k wr hI) hlt
      have hC := HC.out k hlt wr hno hI
      have HN := Lib.hid hno
      clear hno
      go_wp2_with fail
      refine hC.mono ?_
      rintro e W1 ⟨rfl, hI1⟩
      have HI := Lib.hid hI1
      clear hI1 hI hC
      cases hp : p k
      · go_wp2_with fail
        go_roundw
        case rel => exact ⟨k + 1, by omega, by go_num, fun j hj => (by by_cases e : j = k; (subst e; exact hp); exact HN.out j (by omega)), HI.out⟩
        case measure => simp [intOf]; omega
      · go_wp2_with fail
        go_returns
        exact ⟨k, by omega, HN.out, .inl ⟨hlt, hp, by simp, HI.out⟩⟩
    · have hkl : k = l.length := by omega
      have HN := Lib.hid hno
      clear hno
      go_wp2_with fail
      go_returns
      exact ⟨k, by omega, HN.out, .inr ⟨hkl, by simp, by subst hkl; exact hI⟩⟩

theorem contT (l : List TE) (v : Value) (fid : Nat) (fst caps : Array Value) (p : Nat → Bool) (I : Nat → World → Prop) (w : World) (eg : ∀ args w, (callFunc fid args).run Try.prog w = .ok (.enter fid args) w)
    (hsl : ∀ k W, I k W → TEAt W v l)
    (hcall : ∀ k (hk : k < l.length) W, (∀ j, j < k → p j = false) → I k W → Calls Try.prog fid (fst.push (tev l[k]) ++ caps) W (fun e W' => e = .returned (.bool (p k)) ∧ I (k + 1) W')) (h0 : I 0 w) :
    Calls Try.prog 132 #[v, .func (.func fid) fst caps] w (IdxPost l.length p I (fun _ => .bool true) (.bool false)) := by
  have HI := Lib.hid (idxT l v fid fst caps p I w eg hsl hcall h0)
  have hlen := (hsl 0 w h0).len
  clear hsl hcall h0 eg
  go_enter Try.func132, Try.ntmps132
  go_wp2_with fail
  refine HI.out.mono ?_
  clear HI
  rintro e W' ⟨k, hk, hno, ⟨hlt, hp, rfl, hI⟩ | ⟨hkl, rfl, hI⟩⟩
  · have HN := Lib.hid (And.intro hno (And.intro hp hI))
    clear hno hp hI
    go_wp2_with fail
    go_returns
    exact ⟨k, hk, HN.out.1, .inl ⟨hlt, HN.out.2.1, by simp, HN.out.2.2⟩⟩
  · have HN := Lib.hid (And.intro hno (And.intro hkl hI))
    clear hno hkl hI
    go_wp2_with fail
    go_returns
    exact ⟨k, hk, HN.out.1, .inr ⟨HN.out.2.1, by simp, HN.out.2.1 ▸ HN.out.2.2⟩⟩

theorem all1T (x : TE) (bx fid : Nat) (fst caps : Array Value) (b : Bool) (W : World) (R : World → Prop) (eg : ∀ args w, (callFunc fid args).run Try.prog w = .ok (.enter fid args) w)
    (hbx : W.cell? ⟨bx, 0, none⟩ = some (.func (.func fid) fst caps))
    (hcall : Calls Try.prog fid (fst.push (tev x) ++ caps) (W.alloc (.cells #[iv x.1, x.2.1] 71)) (fun e W' => e = .returned (.bool b) ∧ R W')) :
    Calls Try.prog 133 #[tev x, .pointer (some ⟨bx, 0, none⟩)] W (fun e W' => e = .returned (.bool !b) ∧ R W') := by
  have hlt := World.block_lt_of_cell? W _ hbx
  have HC := Lib.hid hcall
  clear hcall
  go_enter Try.func133, Try.ntmps133
  go_wp2_with fail
  refine HC.out.mono ?_
  rintro e W' ⟨rfl, hR⟩
  have HR := Lib.hid hR
  clear hR
  go_wp2_with fail
  go_returns
  exact ⟨by simp, HR.out⟩

theorem allT (l : List TE) (v : Value) (fid : Nat) (fst caps : Array Value) (p : Nat → Bool) (I : Nat → World → Prop) (w : World) (eg : ∀ args w, (callFunc fid args).run Try.prog w = .ok (.enter fid args) w)
    (hsl : ∀ k W, I k W → TEAt W v l) (hal : ∀ k W o, I k W → I k (W.alloc o))
    (hcall : ∀ k (hk : k < l.length) W, (∀ j, j < k → p j = true) → I k W → Calls Try.prog fid (fst.push (tev l[k]) ++ caps) W (fun e W' => e = .returned (.bool (p k)) ∧ I (k + 1) W' ∧ FromOn w.heap.size W W')) (h0 : I 0 w) :
    Calls Try.prog 118 #[v, .func (.func fid) fst caps] w (IdxPost l.length (fun k => !p k) I (fun _ => .bool false) (.bool true)) := by
  have HI := Lib.hid (contT l v 133 #[] #[.pointer (some ⟨w.heap.size, 0, none⟩)] (fun k => !p k)
    (fun k W => I k W ∧ W.heap[w.heap.size]? = some (.cells #[.func (.func fid) fst caps] 125 (0, 0))) (w.alloc (.cells #[.func (.func fid) fst caps] 125))
    (enters_of Try.func133 (by kernel_rfl) rfl) (fun k W h => hsl k W h.1)
    (fun k hk W hno h => by
      have hlt : w.heap.size < W.heap.size := (Array.getElem?_eq_some_iff.1 h.2).1
      refine (all1T l[k] w.heap.size fid fst caps (p k) W (fun W' => I (k + 1) W' ∧ W'.heap[w.heap.size]? = some (.cells #[.func (.func fid) fst caps] 125 (0, 0))) eg (cell_of_block0 h.2) ?_)
      refine (hcall k hk _ (fun j hj => by simpa using hno j hj) (by first | exact hal _ _ _ h.1 | exact h.1)).mono ?_
      rintro e W' ⟨rfl, h1, h2⟩
      refine ⟨rfl, h1, (h2.block _ (Nat.le_refl _) (by first | exact hlt | (simp; omega))).trans (by first | exact h.2 | exact (Below.heap_alloc _ _ _ hlt).trans h.2)⟩)
    ⟨hal _ _ _ h0, heap_alloc_new w _⟩)
  have hlen := (hsl 0 w h0).len
  clear hsl hcall h0 eg hal
  go_enter Try.func118, Try.ntmps118
  go_wp2_with fail
  refine HI.out.mono ?_
  clear HI
  rintro e W' ⟨k, hk, hno, ⟨hlt, hp, rfl, hI, _⟩ | ⟨hkl, rfl, hI, _⟩⟩
  · have HN := Lib.hid (And.intro hno (And.intro hp hI))
    clear hno hp hI
    go_wp2_with fail
    go_returns
    exact ⟨k, hk, HN.out.1, .inl ⟨hlt, HN.out.2.1, by simp, HN.out.2.2⟩⟩
  · have HN := Lib.hid (And.intro hno (And.intro hkl hI))
    clear hno hkl hI
    go_wp2_with fail
    go_returns
    exact ⟨k, hk, HN.out.1, .inr ⟨HN.out.2.1, by simp, HN.out.2.1 ▸ HN.out.2.2⟩⟩

theorem safe1_any (h : HeapD) (hS : Sound h) (oa ob oc : Option Addr) (na ca nb cb nc cc : Nat) (wb mb : Nat) (e : TE) (turns : List Int) (tv : Value) (bw bt : Nat) (W : World) (hb1 : W.heap[bw]? = some (.cells #[.pointer (some ⟨wb, 0, none⟩)] 106 (0, 0))) (hb2 : W.heap[bt]? = some (.cells #[tv] 25 (0, 0)))
    (hwk : WorkAt W wb mb h (.slice oa na ca) (.slice ob nb cb) (.slice oc nc cc)) (he : IntsAt W e.2.1 e.2.2) (htv : IntsAt W tv turns) (hlen : e.2.2.length ≤ 10) (h0 : 0 ≤ e.1) (h1 : e.1 ≤ 500) (hwet : ∀ x ∈ e.2.2, 0 ≤ x ∧ x ≤ 20) :
    Calls Try.prog 119 #[tev e, .pointer (some ⟨bw, 0, none⟩), .pointer (some ⟨bt, 0, none⟩)] W (fun x W' => x = .returned (.bool (keptL h (heats h (e.1, e.2.2) turns))) ∧ Cache W' mb h.cool ∧ Ext [mb] W W') := by
  obtain ⟨ot, ct, rfl⟩ := htv.open
  obtain ⟨start, ws, wet⟩ := e
  replace he : IntsAt W ws wet := he
  simp only at hlen h0 h1 hwet
  obtain ⟨ows, cws, rfl⟩ := SlAt.open he
  have hl0 := hS.last0
  have hl9 := hS.last9
  have c1 := cell_of_block0 hb1
  have c2 := cell_of_block0 hb2
  have s1 := World.block_lt_of_cell? W _ c1
  have s2 := World.block_lt_of_cell? W _ c2
  have c3 := hwk.cell
  have s3 := hwk.lt
  have hn1 := not_mb hwk.cache hb1
  have hn2 := not_mb hwk.cache hb2
  have hn3 := not_mb hwk.cache hwk.cells
  have hmb := hwk.cache.lt
  obtain ⟨ys, hy⟩ : ∃ ys, heats h (start, wet) turns = ys := ⟨_, rfl⟩
  have hy10 : ys.length = 10 := by rw [← hy]; exact heatsTo_length _ _ _ _ _ _
  have hpl := fun (W' : World) (hb : Below W.heap.size W W') => play_any h _ _ _ wb mb start wet turns _ _ W' (hwk.below hb (Nat.le_refl _)) (he.below hb (Nat.le_refl _)) (htv.below hb (Nat.le_refl _)) hlen hS.size0 hS.size1 hS.cool0 hS.cool1 h0 h1 hwet
  obtain ⟨q, hq⟩ : ∃ q, keptL h ys = q := ⟨_, rfl⟩
  have hk := fun (W' : World) => kept_any h oa ob oc na ca nb cb nc cc ys hy10 W' hl0 hl9
  show Calls Try.prog 119 #[.agg #[iv start, .slice ows wet.length cws], .pointer (some ⟨bw, 0, none⟩), .pointer (some ⟨bt, 0, none⟩)] W (fun x W' => x = .returned (.bool (keptL h (heats h (start, wet) turns))) ∧ Cache W' mb h.cool ∧ Ext [mb] W W')
  rw [hy] at hpl ⊢
  rw [hq] at hk ⊢
  have HPL := Lib.hid hpl
  have HK := Lib.hid hk
  clear hpl hk hb1 hb2 hwk he htv hwet hy hq hS
  go_enter Try.func119, Try.ntmps119
  go_wp2_with fail
  obtain ⟨W1, hW1⟩ : ∃ W1, W.alloc (.cells #[iv start, .slice ows wet.length cws] 71) = W1 := ⟨_, rfl⟩
  have hB1 : Below W.heap.size W W1 := by rw [← hW1]; exact bgoAlloc (Below.refl _ _) _
  obtain ⟨hc, hf⟩ := bcell hB1
  have hz1 : W1.heap.size = W.heap.size + 1 := by rw [← hW1]; simp
  have hbt : W1.heap[W.heap.size]? = some (.cells #[iv start, .slice ows wet.length cws] 71 (0, 0)) := by rw [← hW1]; exact heap_new0 _ _
  have hgt : ∀ i, W1.cell? ⟨W.heap.size, i, none⟩ = (#[iv start, .slice ows wet.length cws] : Array Value)[i]? := fun i => by
    simp only [World.cell?, hbt]; rfl
  have z0 : W.heap.size < W1.heap.size := by omega
  have z1 : bw < W1.heap.size := by omega
  have z2 : bt < W1.heap.size := by omega
  have z3 : wb < W1.heap.size := by omega
  have hn4 : ¬ W.heap.size = mb := by omega
  rw [hW1]
  have HB1 := Lib.hid hB1
  clear hW1 hB1 hbt
  refine wp_region_rg 8 [mb] (some 7) [(7, ⟨fun _ v => v = .agg (intCells ys).toArray, fun _ _ W => Cache W mb h.cool⟩)] (by kernel_rfl) (by kernel_rfl) ?_
  simp only [List.take_succ_cons, List.take_zero, List.drop_succ_cons, List.drop_zero]
  repeat (refine tree_det (by rfl) _ (by rfl) (fun W hW => by go_simp; (try simp (disch := omega) only [IntWalk.i64_in, Int.tdiv_eq_ediv_of_nonneg]); try rfl) ?_; simp only [Act.put, List.setIfInBounds_toArray, List.set_cons_succ, List.set_cons_zero])
  refine tree_some _ (by rfl) (by rfl) ⟨_, rfl⟩ (fun W5 hE hF => ?_) (fun v Wa Wb hc hE => ?_) (fun v hv => ?_)
  · have hE' : Ext [] W1 W5 := hE
    refine does_enter 80 #[.pointer (some ⟨wb, 0, none⟩), .agg #[iv start, .slice ows wet.length cws], .slice ot turns.length ct] (by go_simp; try rfl) ?_
    refine (HPL.out W5 (bgo HB1.out hE'.below)).mono ?_
    rintro e W6 ⟨rfl, hcc, hE2⟩
    exact ⟨_, rfl, rfl, hcc, hE2⟩
  · have hE' : Ext [] Wa Wb := hE
    exact Cache.kept hc (hE'.block mb (Cache.lt hc) (by simp))
  obtain rfl : v = .agg (intCells ys).toArray := hv
  simp only [Act.put, List.setIfInBounds_toArray, List.set_cons_succ, List.set_cons_zero]
  intro W5 hE hF
  have hE' : Ext [mb] W1 W5 := hE
  have hcc : Cache W5 mb h.cool := hF _ (List.Mem.head _)
  have HR := Lib.hid (And.intro hcc ((Ext.of_below HB1.out).trans hE'))
  clear hE hF hE' hcc hgt
  go_wp2_with fail
  refine (HK.out W5).mono ?_
  rintro e W6 ⟨rfl, hb6⟩
  have HB6 := Lib.hid hb6
  clear hb6 hc hf
  go_wp2_with fail
  go_returns
  exact ⟨by simp, HR.out.1.kept (HB6.out.block mb HR.out.1.lt), HR.out.2.bel HB6.out⟩

theorem safe_any (h : HeapD) (hS : Sound h) (a b c : Value) (wb mb : Nat) (es : List TE) (ev : Value) (turns : List Int) (tv : Value) (w : World) (hwk : WorkAt w wb mb h a b c) (h1 : PairsAt w a h.wet) (h2 : IntsAt w b h.turns) (h3 : TriplesAt w c h.readings)
    (hev : TEAt w ev es) (hes : ∀ e ∈ es, IntsAt w e.2.1 e.2.2 ∧ e.2.2.length ≤ 10 ∧ (0 ≤ e.1 ∧ e.1 ≤ 500) ∧ ∀ x ∈ e.2.2, 0 ≤ x ∧ x ≤ 20) (htv : IntsAt w tv turns) :
    Calls Try.prog 92 #[.pointer (some ⟨wb, 0, none⟩), ev, tv] w (fun x w' => x = .returned (.bool (es.all fun e => keptL h (heats h (e.1, e.2.2) turns))) ∧ Cache w' mb h.cool ∧ Ext [mb] w w') := by
  obtain ⟨oa, ca, rfl⟩ := h1.open
  obtain ⟨ob, cb, rfl⟩ := h2.open
  obtain ⟨oc, cc, rfl⟩ := h3.open
  obtain ⟨ot, ct, rfl⟩ := htv.open
  obtain ⟨oe, ce, rfl⟩ := TEAt.open hev
  have hmb := hwk.cache.lt
  obtain ⟨q, hq⟩ : ∃ q, (es.all fun e => keptL h (heats h (e.1, e.2.2) turns)) = q := ⟨_, rfl⟩
  have hall := fun (w2 : World) (hB : Below w.heap.size w w2) (hb0 : w2.heap[w.heap.size]? = some (.cells #[.pointer (some ⟨wb, 0, none⟩)] 106 (0, 0))) (hb1 : w2.heap[w.heap.size + 1]? = some (.cells #[.slice ot turns.length ct] 25 (0, 0))) =>
    allT es (.slice oe es.length ce) 119 #[] #[.pointer (some ⟨w.heap.size, 0, none⟩), .pointer (some ⟨w.heap.size + 1, 0, none⟩)] (fun k => keptL h (heats h ((es.getD k (0, undef, [])).1, (es.getD k (0, undef, [])).2.2) turns))
      (fun _ W => (Ext [mb] w W ∧ Cache W mb h.cool) ∧ W.heap[w.heap.size]? = some (.cells #[.pointer (some ⟨wb, 0, none⟩)] 106 (0, 0)) ∧ W.heap[w.heap.size + 1]? = some (.cells #[.slice ot turns.length ct] 25 (0, 0))) w2 (enters_of Try.func119 (by kernel_rfl) rfl)
      (fun k W hI => SlAt.ext_other hev hI.1.1 (fun x hx o => by
        obtain rfl : x = mb := by simpa using hx
        exact hwk.cache.noCell o))
      (fun k W o hI => ⟨⟨hI.1.1.alloc o, hI.1.2.kept (Below.heap_alloc _ _ _ hI.1.2.lt)⟩, (Below.heap_alloc _ _ _ (Array.getElem?_eq_some_iff.1 hI.2.1).1).trans hI.2.1, (Below.heap_alloc _ _ _ (Array.getElem?_eq_some_iff.1 hI.2.2).1).trans hI.2.2⟩)
      (fun k hk W _ hI => by
        have hm : ∀ x ∈ [mb], ∀ o, w.cell? ⟨x, o, none⟩ = none := fun x hx o => by
          obtain rfl : x = mb := by simpa using hx
          exact hwk.cache.noCell o
        obtain ⟨k1, k2, k3, k4⟩ := hes es[k] (List.getElem_mem hk)
        have hgd : es.getD k (0, undef, []) = es[k] := by simp [List.getD, hk]
        rw [hgd]
        refine (safe1_any h hS oa ob oc _ _ _ _ _ _ wb mb es[k] turns (.slice ot turns.length ct) w.heap.size (w.heap.size + 1) W hI.2.1 hI.2.2 (hwk.ext hI.1.1 hI.1.2) (k1.ext_other hI.1.1 hm) (htv.ext_other hI.1.1 hm) k2 k3.1 k3.2 k4).mono ?_
        rintro e W' ⟨rfl, hc, hE⟩
        refine ⟨rfl, ⟨⟨hI.1.1.trans hE, hc⟩, (hE.block _ (Array.getElem?_eq_some_iff.1 hI.2.1).1 (by simp; omega)).trans hI.2.1, (hE.block _ (Array.getElem?_eq_some_iff.1 hI.2.2).1 (by simp; omega)).trans hI.2.2⟩, FromOn.of_ext hE (fun x hx => ?_)⟩
        have := hB.size
        simp at hx
        omega)
      ⟨⟨Ext.of_below hB, hwk.cache.kept (hB.block mb hmb)⟩, hb0, hb1⟩
  have HALL := Lib.hid hall
  have HQ : Hid (((List.range es.length).all fun k => keptL h (heats h ((es.getD k (0, undef, [])).1, (es.getD k (0, undef, [])).2.2) turns)) = q) := Lib.hid (by rw [← hq]; exact range_all es (fun e => keptL h (heats h (e.1, e.2.2) turns)) (0, undef, []))
  rw [hq]
  have hlen := TEAt.len hev
  clear hall hq hes hev hwk h1 h2 h3 htv
  go_enter Try.func92, Try.ntmps92
  go_wp2_with fail
  refine (HALL.out _ (by repeat (first | exact Below.refl _ _ | assumption | refine bgo ?_ (by assumption) | refine bgoAlloc ?_ _ | refine bgoDrew ?_ | refine bgoSet ?_ (by simp; omega) _)) ((Below.heap_alloc _ _ _ (by simp)).trans (heap_new0 _ _)) (heap_new1 _ _ _)).mono ?_
  intro e W' hpost
  obtain ⟨rfl, k, _, hI⟩ := hpost.all
  rw [all_of_any, HQ.out]
  have HI := Lib.hid hI
  clear hI hpost
  go_wp2_with fail
  go_returns
  exact ⟨by simp, HI.out.1.2, HI.out.1.1⟩

end Go.Proofs.Ytoibfafmnaooaaa

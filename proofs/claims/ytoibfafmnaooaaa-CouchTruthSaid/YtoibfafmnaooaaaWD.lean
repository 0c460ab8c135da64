/-
  Contracts of package couch, twentieth part: bounds.
  Contracts of package couch, twenty-first part: slices of heats and of truths, searched by a function value.
  Contracts of package couch, twenty-second part: Bounds, Keeps, ProveKeeps.
  Contracts of package couch, twenty-third part: Fear.
  Contracts of package couch, twenty-fourth part: Leave, First.
-/
import Derived.WalkKit
import Derived.WalkLawsBesides
import Derived.WalkSpells
import Derived.Outline
import Derived.Handy
import Derived.KernelRfl
import Derived.Lib.Hide
import Derived.Test.YtoibfafmnaooaaaWC
namespace Go.Proofs.Ytoibfafmnaooaaa
open Go.RowKit Go.RG Go.SL Go.Shelf Cou
set_option maxHeartbeats 400000
set_option maxRecDepth 10000

theorem flat_at' {α : Type} (f : α → List Value) (sz : Nat) : ∀ (l : List α), (∀ x ∈ l, (f x).length = sz) → ∀ (k j : Nat) (hk : k < l.length), j < sz → (l.flatMap f)[k * sz + j]? = (f l[k])[j]? := by
  intro l
  induction l with
  | nil => intro _ k j hk; simp at hk
  | cons x l ih =>
    intro hf k j hk hj
    have hx := hf x (by simp)
    cases k with
    | zero => simp [List.flatMap_cons, List.getElem?_append_left (show j < (f x).length by rw [hx]; exact hj)]
    | succ k =>
      have e : (k + 1) * sz + j = (f x).length + (k * sz + j) := by rw [hx, Nat.add_mul]; omega
      rw [List.flatMap_cons, e, List.getElem?_append_right (by omega), Nat.add_sub_cancel_left, ih (fun y hy => hf y (by simp [hy])) k j (by simpa using hk) hj]
      rfl

/-- An element of a slice of arrays. -/
theorem owns_at {w : World} {base : Nat} {e : TypeId} {q : Nat} {v : Value} {ls : List (List Int)} (h : w.ownsRow base e q v ls.length (ls.flatMap intCells)) (hl : ∀ x ∈ ls, x.length = q) {k : Nat} (hk : k < ls.length) :
    ∃ g c, v = .slice (some ⟨g, 0, none⟩) ls.length c ∧ g < w.heap.size ∧ w.rangeAt g (k * q) (intCells ls[k]) := by
  obtain ⟨h1, ⟨hv, h2⟩ | ⟨g, c, cs, hv, hb, hc, hn, hm, hs, hx⟩⟩ := h
  · omega
  · refine ⟨g, c, hv, (Array.getElem?_eq_some_iff.1 hc).1, fun j u hj => ?_⟩
    have hj' : j < q := by have := (List.getElem?_eq_some_iff.1 hj).1; simpa [intCells, hl _ (List.getElem_mem hk)] using this
    have e1 : (ls.flatMap intCells)[k * q + j]? = some u := by
      rw [flat_at' intCells q ls (fun x hx => by simp [intCells, hl x hx]) k j hk hj']; exact hj
    rw [← hx, List.getElem?_take] at e1
    split at e1
    · simp only [World.cell?, hc]; simpa using e1
    · cases e1

theorem pairCells_set : ∀ (R : List Rng) (i : Nat) (r : Rng), i < R.length → pairCells (R.set i r) = ((pairCells R).set (i * 2) (iv r.1)).set (i * 2 + 1) (iv r.2) := by
  intro R
  induction R with
  | nil => intro i r hi; simp at hi
  | cons x R ih =>
    intro i r hi
    cases i with
    | zero => simp [pairCells]
    | succ i =>
      have := ih i r (by simpa using hi)
      simp only [pairCells, List.set_cons_succ, List.flatMap_cons] at this ⊢
      rw [show (i + 1) * 2 = i * 2 + 1 + 1 by omega]
      simp only [List.cons_append, List.nil_append, List.set_cons_succ]
      rw [this]

theorem owns_set {w : World} {base : Nat} {e : TypeId} {size n : Nat} {g c : Nat} {xs : List Value} (h : w.ownsRow base e size (.slice (some ⟨g, 0, none⟩) n c) n xs) (j : Nat) (_hj : j < n * size) (u : Value) :
    (w.setCell ⟨g, j, none⟩ u).ownsRow base e size (.slice (some ⟨g, 0, none⟩) n c) n (xs.set j u) := by
  obtain ⟨h1, ⟨hv, h2⟩ | ⟨g', c', cs, hv, hb, hc, hn, hm, hs, hx⟩⟩ := h
  · cases hv
  · cases hv
    refine ⟨by simpa using h1, .inr ⟨g, c, cs.setIfInBounds j u, rfl, hb, set_block hc _, hn, hm, by simpa using hs, ?_⟩⟩
    rw [← hx, Array.toList_setIfInBounds, List.take_set]

theorem owns_set_pair {w : World} {base : Nat} {e : TypeId} {g c : Nat} {R : List Rng} (h : w.ownsRow base e 2 (.slice (some ⟨g, 0, none⟩) R.length c) R.length (pairCells R)) {i : Nat} (hi : i < R.length) (r : Rng) :
    ((w.setCell ⟨g, i * 2, none⟩ (iv r.1)).setCell ⟨g, i * 2 + 1, none⟩ (iv r.2)).ownsRow base e 2 (.slice (some ⟨g, 0, none⟩) R.length c) R.length (pairCells (R.set i r)) := by
  rw [pairCells_set R i r hi]
  exact owns_set (owns_set h (i * 2) (by omega) (iv r.1)) (i * 2 + 1) (by omega) (iv r.2)

/-- The cells of an own pair. -/
theorem owns_pair {w : World} {base : Nat} {e : TypeId} {v : Value} {R : List Rng} (h : w.ownsRow base e 2 v R.length (pairCells R)) {i : Nat} (hi : i < R.length) :
    ∃ g c, v = .slice (some ⟨g, 0, none⟩) R.length c ∧ base ≤ g ∧ g < w.heap.size ∧ (w.cell? ⟨g, i * 2, none⟩ = some (iv R[i].1) ∧ w.cell? ⟨g, i * 2 + 1, none⟩ = some (iv R[i].2)) ∧ ∀ j, w.frozen? ⟨g, j, none⟩ = false := by
  obtain ⟨h1, ⟨hv, h2⟩ | ⟨g, c, cs, hv, hb, hc, hn, hm, hs, hx⟩⟩ := h
  · omega
  · have k0 : (pairCells R)[i * 2 + 0]? = some (iv R[i].1) := by unfold pairCells; rw [flat_get _ 2 (fun _ => rfl) R i 0 hi (by omega)]; rfl
    have k1 : (pairCells R)[i * 2 + 1]? = some (iv R[i].2) := by unfold pairCells; rw [flat_get _ 2 (fun _ => rfl) R i 1 hi (by omega)]; rfl
    refine ⟨g, c, hv, hb, (Array.getElem?_eq_some_iff.1 hc).1, ⟨?_, ?_⟩, fun j => frozen_of_block hc j⟩
    · rw [← hx, List.getElem?_take] at k0
      split at k0
      · simp only [World.cell?, hc]; simpa using k0
      · cases k0
    · rw [← hx, List.getElem?_take] at k1
      split at k1
      · simp only [World.cell?, hc]; simpa using k1
      · cases k1

theorem wpList_append_at {P : Program} {w : World} {ops : Array Oper} {rest : List Oper} {o : Oper} {a : Act} {Q : Exit → Act → World → Prop} (hg : o.guard = none) (s x : Operand) {t e : TypeId} {z : Value} {size bytes : Nat} (hT : SliceT P t e z size bytes)
    (hop : o.op = Op.call { callee := Callee.builtin Builtin.append, args := #[s, x], argTypes := #[t, t] }) (base : Nat) (v : Value) (n : Nat) (xs : List Value) (hs : a.eval s = v) (hown : w.ownsRow base e size v n xs)
    (src : Value) (k : Nat) (news : List Value) (hx : a.eval x = src) (hsrc : SlAt size w src k news) (h1 : ∀ u ∈ news, u.oneCell' = true) (hb : (n + k) * bytes ≤ 140737488355328) (h63 : n + k ≤ 9223372036854775807) (hbase : base ≤ w.heap.size)
    (hK : ∀ v' w', w'.ownsRow base e size v' (n + k) (xs ++ news) → w.grownBy w' v.ownBlock → (v'.ownBlock = v.ownBlock ∨ v'.ownBlock = some w.heap.size) → wpList P ops Q rest (a.put o.dst v') w') : wpList P ops Q (o :: rest) a w := by
  refine wpList_plain hg fun K hK' => ?_
  exact does_wp (does_append_at (P := P) hT hop hs hown hx hsrc h1 hb h63 hbase) fun v' w' ⟨h2, h3, h4⟩ => hK' _ _ (hK v' w' h2 h3 h4)

/-- What bounds leaves behind. -/
def BdPost (R : List Rng) (mb : Nat) (cool : Int) (w : World) (e : Ending) (w' : World) : Prop :=
  ∃ v, e = .returned v ∧ w'.ownsRow w.heap.size 36 2 v R.length (pairCells R) ∧ Cache w' mb cool ∧ Ext [mb] w w'

set_option maxHeartbeats 4000000 in
theorem bounds_any (h : HeapD) (hS : Sound h) (a b c tv : Value) (turns : List Int) (wb mb : Nat) (w : World) (hw : WorkAt w wb mb h a b c) (h1 : PairsAt w a h.wet) (h2 : IntsAt w b h.turns) (h3 : TriplesAt w c h.readings) (h4 : IntsAt w tv turns) :
    Calls Try.prog 66 #[.pointer (some ⟨wb, 0, none⟩), tv] w (BdPost (boundsL (h.last + 1).toNat (everyL h turns)) mb h.cool w) := by
  have HEV := Lib.hid (every_any h hS a b c tv turns wb mb w hw h1 h2 h3 h4)
  obtain ⟨oa, ca, rfl⟩ := h1.open
  obtain ⟨ob, cb, rfl⟩ := h2.open
  obtain ⟨oc, cc, rfl⟩ := h3.open
  obtain ⟨ot, ct, rfl⟩ := h4.open
  have HW := Lib.hid hw
  have HSS := Lib.hid hS
  have hl0 := hS.last0
  have hl9 := hS.last9
  obtain ⟨n, hn⟩ : ∃ n : Nat, h.last + 1 = n := ⟨(h.last + 1).toNat, by omega⟩
  have hten := everyL_ten (h := h) (turns := turns)
  have hlen : (everyL h turns).length ≤ 2000 := Nat.le_trans (everyL_len h turns) (truthsL_len hS [])
  rw [hn, Int.toNat_natCast]
  generalize everyL h turns = ls at *
  clear hw h1 h2 h3 h4 hS
  go_enter Try.func66, Try.ntmps66
  go_wp2_with fail
  refine HEV.out.mono ?_
  rintro e w1 ⟨v, rfl, hown, hcc, hE⟩
  obtain ⟨vo, vc, rfl⟩ := owns_slice hown
  have HO := Lib.hid hown
  have HC := Lib.hid hcc
  have HE := Lib.hid hE
  clear hown hcc hE
  go_wp2_with fail
  have hws := HW.out
  go_loopw [4, 12] (fun o u wr => ∃ k : Nat, k ≤ ls.length ∧ u = .int .i64 k ∧ ∃ oo oc2, o = .slice oo (boundsTo n ls k).length oc2 ∧ wr.ownsRow w1.heap.size 36 2 (.slice oo (boundsTo n ls k).length oc2) (boundsTo n ls k).length (pairCells (boundsTo n ls k)) ∧ Below w1.heap.size w1 wr)
    (fun _ u _ => ls.length - (intOf u).toNat)
  case atStart => exact ⟨0, Nat.zero_le _, rfl, none, 0, rfl, ⟨rfl, .inl ⟨rfl, rfl⟩⟩, Below.refl _ _⟩
  case round =>
    obtain ⟨k, hk, rfl, oo, oc2, rfl, how, hB⟩ := hrel
    by_cases hlt : k < ls.length
    · have hls10 := hten ls[k] (List.getElem_mem hlt)
      obtain ⟨g0, c0, hv0, hg0, hr0⟩ := owns_at HO.out hten hlt
      have hvo : vo = some ⟨g0, 0, none⟩ := by simp at hv0; exact hv0.1
      subst hvo
      have hr1 : wr.rangeAt g0 (k * 10) (intCells ls[k]) := fun j u hj => (hB.cell (p := ⟨g0, k * 10 + j, none⟩) hg0).trans (hr0 j u hj)
      have hlsd : ls.getD k [] = ls[k] := by simp [List.getD, hlt]
      generalize ls[k] = ys at *
      obtain ⟨W2, hst, hblk, hE2⟩ := store_block Try.prog ys (heap_new0 wr (.cells #[iv 0, iv 0, iv 0, iv 0, iv 0, iv 0, iv 0, iv 0, iv 0, iv 0] 127)) (by rw [hls10]; rfl)
      have hyl : (intCells ys).length = 10 := by simp [intCells, hls10]
      have hB2 : Below wr.heap.size wr W2 := (Ext.below (ext_newer ((Ext.of_below (Below.refl _ _)).alloc _) hE2 (Nat.le_refl _)))
      have hwrk : WorkAt W2 wb mb h (.slice oa h.wet.length ca) (.slice ob h.turns.length cb) (.slice oc h.readings.length cc) := (HW.out.ext HE.out HC.out).below (bgo hB hB2) (Nat.le_refl _)
      have c2 := hwrk.cell
      have c3 := hwrk.lt
      have hltI : (k : Int) < ls.length := by omega
      have hkn : ((k : Int)).toNat = k := by omega
      have HB := Lib.hid hB
      have HB2 := Lib.hid hB2
      have HK := Lib.hid hblk
      have HOW := Lib.hid how
      clear hws hB hB2 hblk how hwrk hE2 hr0
      go_wp2_with (refine wpList_load_mid rfl 127 _ rfl g0 (k * 10) rfl (intCells ys) _ hr1 Try.underlying127 rfl (by rw [hyl]; kernel_rfl) ?_)
      refine (hours_n h _ _ _ n _ hl0 hl9 hn).mono ?_
      rintro e W3 ⟨rfl, hb⟩
      have HB3 := Lib.hid (bgo HB2.out hb)
      have hk3 : W3.heap[wr.heap.size]? = some (.cells (intCells ys).toArray 127 (0, 0)) := (hb.block _ (Array.getElem?_eq_some_iff.1 HK.out).1).trans HK.out
      have HK3 := Lib.hid hk3
      clear hb hk3 c2 c3 hst hr1
      go_wp2_with fail
      have hn10 : n ≤ 10 := by omega
      have hR : k ≠ 0 → (boundsTo n ls k).length = n := boundsTo_len n ls k
      have hR0 : k = 0 → boundsTo n ls k = [] := fun e => by subst e; rfl
      have H3 := Lib.hid (show _ ∧ _ ∧ _ ∧ _ from And.intro (owns_ext (Ms := []) HOW.out (Ext.of_below HB3.out) (by simp)) (And.intro (fun g (hg : (Value.slice oo (boundsTo n ls k).length oc2).ownBlock = some g) => (show g ≠ wr.heap.size from by have := (owns_ge HOW.out g hg).2; omega)) (And.intro (bgo HB.out HB3.out) HK3.out)))
      clear HB HB2 HB3 HOW HK HK3
      generalize wr.heap.size = b6 at *
      go_loopw [4, 22] (fun o u wq => ∃ i : Nat, i ≤ n ∧ u = .int .i64 i ∧ ∃ oo oc2, o = .slice oo (partB n k (boundsTo n ls k) ys i).length oc2 ∧ wq.ownsRow w1.heap.size 36 2 (.slice oo (partB n k (boundsTo n ls k) ys i).length oc2) (partB n k (boundsTo n ls k) ys i).length (pairCells (partB n k (boundsTo n ls k) ys i)) ∧
          (∀ g, (Value.slice oo (partB n k (boundsTo n ls k) ys i).length oc2).ownBlock = some g → g ≠ b6) ∧ Below w1.heap.size w1 wq ∧ wq.heap[b6]? = some (.cells (intCells ys).toArray 127 (0, 0)))
        (fun _ u _ => n - (intOf u).toNat)
      case atStart =>
        refine ⟨0, Nat.zero_le _, rfl, ?_⟩
        rw [partB_zero hR hR0]
        exact ⟨oo, oc2, rfl, H3.out⟩
      case round =>
        obtain ⟨i, hi, rfl, oo3, oc3, rfl, how, hne, hB, hblk⟩ := hrel
        by_cases hin : i < n
        · have hi10 : i < ys.length := by omega
          have hcell := cell_of_ints hblk hi10
          have hgx : ys.getD i 0 = ys[i] := by simp [List.getD, hi10]
          have hkb := (Array.getElem?_eq_some_iff.1 hblk).1
          have hiI : (i : Int) < 10 := by omega
          have hinI : (i : Int) < n := by omega
          have hiN : ((i : Int)).toNat = i := by omega
          generalize hxx : ys[i] = x at hcell hgx
          have HX := Lib.hid hgx
          have HOI := Lib.hid how
          have HNE := Lib.hid hne
          have HBQ := Lib.hid hB
          have HKQ := Lib.hid hblk
          clear hgx how hne hB hblk hxx
          rcases Nat.eq_zero_or_pos k with hk0 | hk0
          · have hk0b : ((k : Int) == 0) = true := by simpa using hk0
            have hln0 : (partB n k (boundsTo n ls k) ys i).length = i := by rw [hk0]; exact partB_len0 _ _ _ _
            have happ : partB n k (boundsTo n ls k) ys i ++ [(x, x)] = partB n k (boundsTo n ls k) ys (i + 1) := by rw [hk0, ← HX.out]; exact partB_app
            have hlen1 : (partB n k (boundsTo n ls k) ys (i + 1)).length = i + 1 := by rw [hk0]; exact partB_len0 _ _ _ _
            have HAP := Lib.hid happ
            have HK0 := Lib.hid hk0
            have HLN := Lib.hid (And.intro hln0 hlen1)
            clear happ hk0 hln0 hlen1
            go_wp2_with fail
            clear hk0b
            refine wp_region_rg 9 [] none [(8, Spec.slice wr.heap.size #[iv x, iv x] 36 1)] (by kernel_rfl) (by kernel_rfl) ?_
            simp only [List.take_succ_cons, List.take_zero, List.drop_succ_cons, List.drop_zero]
            repeat (refine tree_det (by rfl) _ (by rfl) (fun W hW => by go_simp; (try simp (disch := omega) only [IntWalk.i64_in, Int.tdiv_eq_ediv_of_nonneg]); try rfl) ?_; simp only [Act.put, List.setIfInBounds_toArray, List.set_cons_succ, List.set_cons_zero])
            refine tree_slice wr.heap.size _ _ _ (by rfl) (Nat.le_refl _) (by rfl) (by simp) (by simp) (fun W hW => by go_simp; try rfl) (fun b8 => ?_)
            simp only [Act.put, List.setIfInBounds_toArray, List.set_cons_succ, List.set_cons_zero]
            intro W5 hE5 hF5
            have hE5' : Ext [] wr W5 := hE5
            obtain ⟨b8', hb8, hbB8, hblk8⟩ := hF5 _ (List.Mem.head _)
            cases hb8
            obtain ⟨hc, hf⟩ := bcell hE5'.below
            have hz5 := hE5'.size
            have HE5 := Lib.hid hE5'
            have HBK := Lib.hid hblk8
            have hown5 := owns_ext (Ms := []) HOI.out hE5' (by simp)
            have HOI5 := Lib.hid hown5
            have hw1r := HBQ.out.size
            clear hE5 hF5 hE5' hblk8 hown5
            go_wp2_with (at_builtin; go_loud (refine wpList_append_at rfl _ _ tPairs rfl w1.heap.size (.slice oo3 (partB n k (boundsTo n ls k) ys i).length oc3) (partB n k (boundsTo n ls k) ys i).length (pairCells (partB n k (boundsTo n ls k) ys i)) rfl HOI5.out (.slice (some ⟨b8, 0, none⟩) 1 1) 1 (pairCells [(x, x)]) rfl (SlAt.of_block 2 1 HBK.out rfl (by decide)) (one_pairs _) (by have := HLN.out.1; omega) (by have := HLN.out.1; omega) (by omega) ?_))
            intro v' W6 hown6 hgr6 hnew6
            have hown6' : W6.ownsRow w1.heap.size 36 2 v' (partB n k (boundsTo n ls k) ys (i + 1)).length (pairCells (partB n k (boundsTo n ls k) ys (i + 1))) := by
              rw [HLN.out.2, ← HAP.out]
              have e1 : pairCells (partB n k (boundsTo n ls k) ys i ++ [(x, x)]) = pairCells (partB n k (boundsTo n ls k) ys i) ++ pairCells [(x, x)] := by simp [pairCells]
              rw [e1]
              have hl := HLN.out.1
              rw [hl] at hown6
              exact hown6
            obtain ⟨o6, c6, rfl⟩ := owns_slice hown6'
            have HO9 := Lib.hid hown6'
            have HN9 : Hid (∀ g, (Value.slice o6 (partB n k (boundsTo n ls k) ys (i + 1)).length c6).ownBlock = some g → g ≠ b6) := Lib.hid (fun g hg => by
              rcases hnew6 with e | e
              · rw [hg] at e; exact HNE.out g e.symm
              · rw [hg] at e; injection e with e; omega)
            have hb6n : (Value.slice oo3 (partB n k (boundsTo n ls k) ys i).length oc3).ownBlock ≠ some b6 := fun e => HNE.out b6 e rfl
            have hE6 : ∀ b, b < wr.heap.size → (Value.slice oo3 (partB n k (boundsTo n ls k) ys i).length oc3).ownBlock ≠ some b → W6.heap[b]? = wr.heap[b]? := fun b hb hn => (hgr6.block b (by omega) (fun e => hn e.symm)).trans (HE5.out.block b hb (by simp))
            have hs6 := hgr6.size
            have hk6 : W6.heap[b6]? = some (.cells (intCells ys).toArray 127 (0, 0)) := (hE6 b6 hkb hb6n).trans HKQ.out
            have hB6 : Below w1.heap.size w1 W6 := ⟨hgr6.os.trans (HE5.out.os.trans HBQ.out.os), hgr6.tape.trans (HE5.out.tape.trans HBQ.out.tape), hgr6.output.trans (HE5.out.output.trans HBQ.out.output), by omega,
              fun b hb => (hE6 b (by omega) (fun e => by have := (owns_ge HOI.out b e).1; omega)).trans (HBQ.out.block b hb)⟩
            have HB9 := Lib.hid hB6
            have HK9 := Lib.hid hk6
            have hcell6 : W6.cell? ⟨b6, i, none⟩ = some (.int .i64 x) := by
              have := cell_of_ints hk6 hi10
              rw [this]
              have hx := HX.out
              simp only [List.getD, List.getElem?_eq_getElem hi10, Option.getD_some] at hx
              rw [hx]
            have hkb6 := (Array.getElem?_eq_some_iff.1 hk6).1
            clear hown6 hgr6 hnew6 hown6' hb6n hE6 hk6 hB6 hc hf hcell
            go_wp2_with fail
            have hlen1 := HLN.out.2
            have heq0 : (partB n k (boundsTo n ls k) ys (i + 1)).set i (wid ((partB n k (boundsTo n ls k) ys (i + 1)).getD i (0, 0)) (ys.getD i 0)) = partB n k (boundsTo n ls k) ys (i + 1) := by rw [HK0.out]; exact partB_set0
            have hiL : i < ((partB n k (boundsTo n ls k) ys (i + 1))).length := by first | omega | (rw [partB_len _ _ _ _ _ hk0]; omega) | (simp only [partB_len0, List.length_append, List.length_cons, List.length_nil, boundsTo_len, partB_len, ne_eq, hk0, not_false_eq_true]; omega)
            (try clear hlen1)
            obtain ⟨g9, c9, hv9, hg9, hlt9, ⟨p0, p1⟩, hfz⟩ := owns_pair HO9.out hiL
            simp only [Value.slice.injEq, true_and] at hv9
            obtain ⟨rfl, rfl⟩ := hv9
            have hgd : ((partB n k (boundsTo n ls k) ys (i + 1))).getD i (0, 0) = ((partB n k (boundsTo n ls k) ys (i + 1)))[i] := by simp [List.getD, hiL]
            have hne9 : ¬ g9 = b6 := HN9.out g9 rfl
            have hiL' : (i : Int) < (((partB n k (boundsTo n ls k) ys (i + 1))).length : Int) := by omega
            generalize hri : ((partB n k (boundsTo n ls k) ys (i + 1)))[i] = r9 at p0 p1 hgd
            have HGD := Lib.hid hgd
            have hf0 := hfz (i * 2)
            have hf1 := hfz (i * 2 + 1)
            clear hfz hri hgd
            refine wp_region_rg 11 [] none [(9, Spec.val (rv (wid r9 x)))] (by kernel_rfl) (by kernel_rfl) ?_
            simp only [List.take_succ_cons, List.take_zero, List.drop_succ_cons, List.drop_zero]
            repeat (refine tree_det (by rfl) _ (by rfl) (fun W hW => by go_simp; (try simp (disch := omega) only [IntWalk.i64_in, Int.tdiv_eq_ediv_of_nonneg]); try rfl) ?_; simp only [Act.put, List.setIfInBounds_toArray, List.set_cons_succ, List.set_cons_zero])
            refine tree_val _ (by rfl) (by rfl) 105 _ (fun W hW => by go_simp; (try simp (disch := omega) only [IntWalk.i64_in]); try rfl) (fun W hE hF => by exact wider_any r9 x W) ?_
            simp only [Act.put, List.setIfInBounds_toArray, List.set_cons_succ, List.set_cons_zero]
            repeat (refine tree_det (by rfl) _ (by rfl) (fun W hW => by go_simp; (try simp (disch := omega) only [IntWalk.i64_in, Int.tdiv_eq_ediv_of_nonneg]); try rfl) ?_; simp only [Act.put, List.setIfInBounds_toArray, List.set_cons_succ, List.set_cons_zero])
            intro W8 hE8 hF8
            have hE8' : Ext [] W6 W8 := hE8
            obtain ⟨hc8, hf8⟩ := bcell hE8'.below
            have hz8 := hE8'.size
            have HE8 := Lib.hid hE8'
            have hlt8 : g9 < W8.heap.size := by omega
            clear hE8 hF8 hE8'
            go_wp2_with fail
            go_roundw
            case rel =>
              have heq : partB n k (boundsTo n ls k) ys (i + 1) = ((partB n k (boundsTo n ls k) ys (i + 1))).set i (wid r9 x) := by
                rw [← HX.out, ← HGD.out]
                exact (heq0).symm
              refine ⟨i + 1, by omega, by go_num, ?_⟩
              rw [heq, List.length_set]
              have hset := owns_set_pair (owns_ext (Ms := []) HO9.out HE8.out (by simp)) hiL (wid r9 x)
              refine ⟨_, _, rfl, hset, fun g hg => by cases hg; exact hne9, bgoSet (bgoSet (bgo HB9.out HE8.out.below) hg9 _) hg9 _, ?_⟩
              exact (Below.heap_setCell _ _ _ _ (by show b6 ≠ g9; omega)).trans ((Below.heap_setCell _ _ _ _ (by show b6 ≠ g9; omega)).trans ((HE8.out.block b6 (Array.getElem?_eq_some_iff.1 HK9.out).1 (by simp)).trans HK9.out))
            case measure => simp [intOf]; omega
          · have hk0I : ¬ ((k : Int) = 0) := by omega
            have hk0b : ((k : Int) == 0) = false := by simp; omega
            have hk0' : k ≠ 0 := by omega
            replace hk0 : k ≠ 0 := by omega
            go_wp2_with fail
            have HO9 := HOI
            have HN9 := HNE
            have HB9 := HBQ
            have HK9 := HKQ
            have hiL : i < ((partB n k (boundsTo n ls k) ys i)).length := by first | omega | (rw [partB_len _ _ _ _ _ hk0]; omega) | (simp only [partB_len0, List.length_append, List.length_cons, List.length_nil, boundsTo_len, partB_len, ne_eq, hk0, not_false_eq_true]; omega)
            (try clear hlen1)
            obtain ⟨g9, c9, hv9, hg9, hlt9, ⟨p0, p1⟩, hfz⟩ := owns_pair HO9.out hiL
            simp only [Value.slice.injEq, true_and] at hv9
            obtain ⟨rfl, rfl⟩ := hv9
            have hgd : ((partB n k (boundsTo n ls k) ys i)).getD i (0, 0) = ((partB n k (boundsTo n ls k) ys i))[i] := by simp [List.getD, hiL]
            have hne9 : ¬ g9 = b6 := HN9.out g9 rfl
            have hiL' : (i : Int) < (((partB n k (boundsTo n ls k) ys i)).length : Int) := by omega
            generalize hri : ((partB n k (boundsTo n ls k) ys i))[i] = r9 at p0 p1 hgd
            have HGD := Lib.hid hgd
            have hf0 := hfz (i * 2)
            have hf1 := hfz (i * 2 + 1)
            clear hfz hri hgd
            refine wp_region_rg 11 [] none [(9, Spec.val (rv (wid r9 x)))] (by kernel_rfl) (by kernel_rfl) ?_
            simp only [List.take_succ_cons, List.take_zero, List.drop_succ_cons, List.drop_zero]
            repeat (refine tree_det (by rfl) _ (by rfl) (fun W hW => by go_simp; (try simp (disch := omega) only [IntWalk.i64_in, Int.tdiv_eq_ediv_of_nonneg]); try rfl) ?_; simp only [Act.put, List.setIfInBounds_toArray, List.set_cons_succ, List.set_cons_zero])
            refine tree_val _ (by rfl) (by rfl) 105 _ (fun W hW => by go_simp; (try simp (disch := omega) only [IntWalk.i64_in]); try rfl) (fun W hE hF => by exact wider_any r9 x W) ?_
            simp only [Act.put, List.setIfInBounds_toArray, List.set_cons_succ, List.set_cons_zero]
            repeat (refine tree_det (by rfl) _ (by rfl) (fun W hW => by go_simp; (try simp (disch := omega) only [IntWalk.i64_in, Int.tdiv_eq_ediv_of_nonneg]); try rfl) ?_; simp only [Act.put, List.setIfInBounds_toArray, List.set_cons_succ, List.set_cons_zero])
            intro W8 hE8 hF8
            have hE8' : Ext [] wr W8 := hE8
            obtain ⟨hc8, hf8⟩ := bcell hE8'.below
            have hz8 := hE8'.size
            have HE8 := Lib.hid hE8'
            have hlt8 : g9 < W8.heap.size := by omega
            clear hE8 hF8 hE8'
            go_wp2_with fail
            go_roundw
            case rel =>
              have heq : partB n k (boundsTo n ls k) ys (i + 1) = ((partB n k (boundsTo n ls k) ys i)).set i (wid r9 x) := by
                rw [← HX.out, ← HGD.out]
                exact (partB_set hk0 hin).symm
              refine ⟨i + 1, by omega, by go_num, ?_⟩
              rw [heq, List.length_set]
              have hset := owns_set_pair (owns_ext (Ms := []) HO9.out HE8.out (by simp)) hiL (wid r9 x)
              refine ⟨_, _, rfl, hset, fun g hg => by cases hg; exact hne9, bgoSet (bgoSet (bgo HB9.out HE8.out.below) hg9 _) hg9 _, ?_⟩
              exact (Below.heap_setCell _ _ _ _ (by show b6 ≠ g9; omega)).trans ((Below.heap_setCell _ _ _ _ (by show b6 ≠ g9; omega)).trans ((HE8.out.block b6 (Array.getElem?_eq_some_iff.1 HK9.out).1 (by simp)).trans HK9.out))
            case measure => simp [intOf]; omega
        · have hin' : i = n := by omega
          subst hin'
          have hsucc : boundsTo i ls (k + 1) = partB i k (boundsTo i ls k) ys i := by
            show partB i k (boundsTo i ls k) (ls.getD k []) i = _
            rw [hlsd]
          have HS := Lib.hid (And.intro hsucc (And.intro how hB))
          clear hsucc how hB hblk hne
          go_wp2_with fail
          go_roundw
          case rel =>
            refine ⟨k + 1, by omega, by go_num, ?_⟩
            rw [HS.out.1]
            exact ⟨_, _, rfl, HS.out.2.1, HS.out.2.2⟩
          case measure => simp [intOf]; omega
    · have hkl : k = ls.length := by omega
      subst hkl
      have HF := Lib.hid (And.intro how hB)
      clear how hB
      go_wp2_with fail
      go_returns
      exact ⟨_, by simp, owns_base HF.out.1 (by have := HE.out.size; omega), HC.out.kept (HF.out.2.block mb HC.out.lt), HE.out.bel HF.out.2⟩

end Go.Proofs.Ytoibfafmnaooaaa

namespace Go.Proofs.Ytoibfafmnaooaaa
open Go.RowKit Go.RG Go.SL Go.Shelf Cou
set_option maxHeartbeats 400000
set_option maxRecDepth 10000

/-- A slice of heats. -/
def HeatsAt (w : World) (v : Value) (ls : List (List Int)) : Prop := SlAt 10 w v ls.length (ls.flatMap intCells) ∧ ∀ x ∈ ls, x.length = 10
theorem HeatsAt.len {w : World} {v : Value} {ls : List (List Int)} (h : HeatsAt w v ls) : ls.length ≤ 9223372036854775807 := SlAt.len h.1
theorem HeatsAt.open {w : World} {v : Value} {ls : List (List Int)} (h : HeatsAt w v ls) : ∃ o c, v = .slice o ls.length c := SlAt.open h.1
theorem HeatsAt.below {w w' : World} {v : Value} {ls : List (List Int)} (h : HeatsAt w v ls) (hb : Below w.heap.size w w') : HeatsAt w' v ls := ⟨h.1.below hb (Nat.le_refl _), h.2⟩
theorem HeatsAt.cell {w : World} {o : Option Addr} {c : Nat} {ls : List (List Int)} (h : HeatsAt w (.slice o ls.length c) ls) {k : Nat} (hk : k < ls.length) :
    ∃ b off, o = some ⟨b, off, none⟩ ∧ b < w.heap.size ∧ w.rangeAt b (off + k * 10) (intCells ls[k]) := by
  obtain ⟨⟨hl, o', c', hv, h1, h2, h3, h4⟩, h10⟩ := h
  cases hv
  cases o with
  | none => have := h3 rfl; omega
  | some a =>
    obtain ⟨b, off, sp⟩ := a
    obtain ⟨hs, hc⟩ := h4 _ rfl
    simp only at hs hc
    subst hs
    have hat : ∀ j u, (intCells ls[k])[j]? = some u → w.cell? ⟨b, off + k * 10 + j, none⟩ = some u := fun j u hj => by
      have hj' : j < 10 := by have := (List.getElem?_eq_some_iff.1 hj).1; simpa [intCells, h10 _ (List.getElem_mem hk)] using this
      have := hc (k * 10 + j) u (by rw [flat_at' intCells 10 ls (fun x hx => by simp [intCells, h10 x hx]) k j hk hj']; exact hj)
      rw [← Nat.add_assoc] at this
      exact this
    have h0 : ls[k].length = 10 := h10 _ (List.getElem_mem hk)
    have := hat 0 (iv (ls[k][0]'(by omega))) (by simp [intCells])
    exact ⟨b, off, rfl, World.block_lt_of_cell? w _ this, hat⟩

theorem idxH (l : List (List Int)) (v : Value) (fid : Nat) (fst caps : Array Value) (p : Nat → Bool) (I : Nat → World → Prop) (w : World) (eg : ∀ args w, (callFunc fid args).run Try.prog w = .ok (.enter fid args) w)
    (hsl : ∀ k W, I k W → HeatsAt W v l)
    (hcall : ∀ k (hk : k < l.length) W, (∀ j, j < k → p j = false) → I k W → Calls Try.prog fid (fst.push (aggI l[k]) ++ caps) W (fun e W' => e = .returned (.bool (p k)) ∧ I (k + 1) W')) (h0 : I 0 w) :
    Calls Try.prog 115 #[v, .func (.func fid) fst caps] w (IdxPost l.length p I (fun k => iv k) (iv (-1))) := by
  have hlen := (hsl 0 w h0).len
  have h10 := (hsl 0 w h0).2
  obtain ⟨o, c, rfl⟩ := (hsl 0 w h0).open
  have HC := Lib.hid hcall
  have HS := Lib.hid hsl
  have HT := Lib.hid h10
  clear hcall hsl h10
  go_enter Try.func115, Try.ntmps115
  go_wp2
  go_loopw [4, 5, 8] (fun _ _ i wr => ∃ k : Nat, k ≤ l.length ∧ i = .int .i64 k ∧ (∀ j, j < k → p j = false) ∧ I k wr) (fun _ _ i _ => l.length - (intOf i).toNat)
  case atStart => exact ⟨0, Nat.zero_le _, rfl, fun j hj => by omega, h0⟩
  case round =>
    obtain ⟨k, hk, rfl, hno, hI⟩ := hrel
    by_cases hlt : k < l.length
    · obtain ⟨b, off, rfl, hb, hrng⟩ := HeatsAt.cell (HS.out k wr hI) hlt
      have hC := HC.out k hlt wr hno hI
      have hyl : (intCells l[k]).length = 10 := by simp [intCells, HT.out _ (List.getElem_mem hlt)]
      have hltI : (k : Int) < l.length := by omega
      have HN := Lib.hid hno
      clear hno
      generalize l[k] = ys at *
      go_wp2_with (refine wpList_load_mid rfl 127 _ rfl b (off + k * 10) rfl (intCells ys) _ hrng Try.underlying127 rfl (by rw [hyl]; kernel_rfl) ?_)
      refine hC.mono ?_
      rintro e W1 ⟨rfl, hI1⟩
      have HI := Lib.hid hI1
      clear hI1 hI hC
      cases hp : p k
      · go_wp2_with fail
        go_roundw
        case rel => exact ⟨k + 1, by omega, by go_num, fun j hj => (by by_cases e : j = k; (subst e; exact hp); exact HN.out j (by omega)), HI.out⟩
        case measure => simp [intOf]; omega
      · go_wp2_with fail
        go_returns
        exact ⟨k, by omega, HN.out, .inl ⟨hlt, hp, by simp, HI.out⟩⟩
    · have hkl : k = l.length := by omega
      have HN := Lib.hid hno
      clear hno
      go_wp2_with fail
      go_returns
      exact ⟨k, by omega, HN.out, .inr ⟨hkl, by simp, by subst hkl; exact hI⟩⟩

theorem contH (l : List (List Int)) (v : Value) (fid : Nat) (fst caps : Array Value) (p : Nat → Bool) (I : Nat → World → Prop) (w : World) (eg : ∀ args w, (callFunc fid args).run Try.prog w = .ok (.enter fid args) w)
    (hsl : ∀ k W, I k W → HeatsAt W v l)
    (hcall : ∀ k (hk : k < l.length) W, (∀ j, j < k → p j = false) → I k W → Calls Try.prog fid (fst.push (aggI l[k]) ++ caps) W (fun e W' => e = .returned (.bool (p k)) ∧ I (k + 1) W')) (h0 : I 0 w) :
    Calls Try.prog 86 #[v, .func (.func fid) fst caps] w (IdxPost l.length p I (fun _ => .bool true) (.bool false)) := by
  have HI := Lib.hid (idxH l v fid fst caps p I w eg hsl hcall h0)
  have hlen := (hsl 0 w h0).len
  clear hsl hcall h0 eg
  go_enter Try.func86, Try.ntmps86
  go_wp2_with fail
  refine HI.out.mono ?_
  clear HI
  rintro e W' ⟨k, hk, hno, ⟨hlt, hp, rfl, hI⟩ | ⟨hkl, rfl, hI⟩⟩
  · have HN := Lib.hid (And.intro hno (And.intro hp hI))
    clear hno hp hI
    go_wp2_with fail
    go_returns
    exact ⟨k, hk, HN.out.1, .inl ⟨hlt, HN.out.2.1, by simp, HN.out.2.2⟩⟩
  · have HN := Lib.hid (And.intro hno (And.intro hkl hI))
    clear hno hkl hI
    go_wp2_with fail
    go_returns
    exact ⟨k, hk, HN.out.1, .inr ⟨HN.out.2.1, by simp, HN.out.2.1 ▸ HN.out.2.2⟩⟩

theorem all1H (x : List Int) (h10 : x.length = 10) (bx fid : Nat) (fst caps : Array Value) (b : Bool) (W : World) (R : World → Prop) (eg : ∀ args w, (callFunc fid args).run Try.prog w = .ok (.enter fid args) w)
    (hbx : W.cell? ⟨bx, 0, none⟩ = some (.func (.func fid) fst caps))
    (hcall : Calls Try.prog fid (fst.push (aggI x) ++ caps) (W.alloc (.cells (intCells x).toArray 127)) (fun e W' => e = .returned (.bool b) ∧ R W')) :
    Calls Try.prog 113 #[aggI x, .pointer (some ⟨bx, 0, none⟩)] W (fun e W' => e = .returned (.bool !b) ∧ R W') := by
  have hlt := World.block_lt_of_cell? W _ hbx
  obtain ⟨y0, y1, y2, y3, y4, y5, y6, y7, y8, y9, rfl⟩ := ten_of h10
  have HC := Lib.hid hcall
  clear hcall
  show Calls Try.prog 113 #[.agg #[iv y0, iv y1, iv y2, iv y3, iv y4, iv y5, iv y6, iv y7, iv y8, iv y9], .pointer (some ⟨bx, 0, none⟩)] W _
  go_enter Try.func113, Try.ntmps113
  go_wp2_with fail
  refine HC.out.mono ?_
  rintro e W' ⟨rfl, hR⟩
  have HR := Lib.hid hR
  clear hR
  go_wp2_with fail
  go_returns
  exact ⟨by simp, HR.out⟩

theorem allH_pure (l : List (List Int)) (v : Value) (fid : Nat) (fst caps : Array Value) (q : List Int → Bool) (w : World) (hv : HeatsAt w v l) (eg : ∀ args w, (callFunc fid args).run Try.prog w = .ok (.enter fid args) w)
    (hcall : ∀ x ∈ l, ∀ W, Below w.heap.size w W → Calls Try.prog fid (fst.push (aggI x) ++ caps) W (PV (.bool (q x)) W)) :
    Calls Try.prog 84 #[v, .func (.func fid) fst caps] w (PV (.bool (l.all q)) w) := by
  have HI := Lib.hid (contH l v 113 #[] #[.pointer (some ⟨w.heap.size, 0, none⟩)] (fun k => !q (l.getD k []))
    (fun k W => Below w.heap.size w W ∧ W.heap[w.heap.size]? = some (.cells #[.func (.func fid) fst caps] 133 (0, 0))) (w.alloc (.cells #[.func (.func fid) fst caps] 133))
    (enters_of Try.func113 (by kernel_rfl) rfl) (fun k W h => hv.below h.1)
    (fun k hk W hno h => by
      have hlt : w.heap.size < W.heap.size := (Array.getElem?_eq_some_iff.1 h.2).1
      have hgd : l.getD k [] = l[k] := by simp [List.getD, hk]
      rw [hgd]
      refine (all1H l[k] (hv.2 _ (List.getElem_mem hk)) w.heap.size fid fst caps (q l[k]) W (fun W' => Below w.heap.size w W' ∧ W'.heap[w.heap.size]? = some (.cells #[.func (.func fid) fst caps] 133 (0, 0))) eg (cell_of_block0 h.2) ?_)
      refine (hcall l[k] (List.getElem_mem hk) _ (bgoAlloc h.1 _)).mono ?_
      rintro e W' ⟨rfl, hb⟩
      refine ⟨rfl, bgo (bgoAlloc h.1 _) hb, (hb.block _ (by simp; omega)).trans ((Below.heap_alloc _ _ _ hlt).trans h.2)⟩)
    ⟨bgoAlloc (Below.refl _ _) _, heap_alloc_new w _⟩)
  have hlen := hv.len
  obtain ⟨bb, hbb⟩ : ∃ bb, l.all q = bb := ⟨_, rfl⟩
  rw [hbb]
  have HQ : Hid (((List.range l.length).any fun k => !q (l.getD k [])) = !bb) := Lib.hid (by rw [← hbb, ← range_all l q [], List.all_eq_not_any_not]; simp)
  clear hcall eg hv hbb
  go_enter Try.func84, Try.ntmps84
  go_wp2_with fail
  refine HI.out.mono ?_
  clear HI
  intro e W' hpost
  obtain ⟨rfl, k, _, hI, _⟩ := hpost.all
  have HB := Lib.hid hI
  rw [HQ.out]
  clear hI hpost
  cases bb
  all_goals
    go_wp2_with fail
    go_returns
    exact ⟨by simp, HB.out⟩

theorem contH_pure (l : List (List Int)) (v : Value) (fid : Nat) (fst caps : Array Value) (q : List Int → Bool) (w : World) (hv : HeatsAt w v l) (eg : ∀ args w, (callFunc fid args).run Try.prog w = .ok (.enter fid args) w)
    (hcall : ∀ x ∈ l, ∀ W, Below w.heap.size w W → Calls Try.prog fid (fst.push (aggI x) ++ caps) W (PV (.bool (q x)) W)) :
    Calls Try.prog 86 #[v, .func (.func fid) fst caps] w (PV (.bool (l.any q)) w) := by
  refine (contH l v fid fst caps (fun k => q (l.getD k [])) (fun _ W => Below w.heap.size w W) w eg (fun k W h => hv.below h) (fun k hk W _ h => ?_) (Below.refl _ _)).mono ?_
  · have hgd : l.getD k [] = l[k] := by simp [List.getD, hk]
    rw [hgd]
    refine (hcall l[k] (List.getElem_mem _) W h).mono ?_
    rintro e W' ⟨rfl, hb⟩
    exact ⟨rfl, bgo h hb⟩
  · intro e W' hpost
    obtain ⟨rfl, k, _, hI⟩ := hpost.all
    refine ⟨?_, hI⟩
    have := range_all l (fun x => !q x) []
    have e2 : ((List.range l.length).any fun k => q (l.getD k [])) = l.any q := by
      rw [List.any_eq_not_all_not, this, List.any_eq_not_all_not]
    rw [e2]
    cases l.any q <;> rfl

end Go.Proofs.Ytoibfafmnaooaaa

namespace Go.Proofs.Ytoibfafmnaooaaa
open Go.RowKit Go.RG Go.SL Go.Shelf Cou
set_option maxHeartbeats 400000
set_option maxRecDepth 10000

def boundsOut (h : HeapD) (turns : List Int) : List Rng := if askErr h turns = 0 then boundsL (h.last + 1).toNat (everyL h turns) else []

theorem ask_sound {h : HeapD} {turns : List Int} (he : askErr h turns = 0) : Sound h := by
  unfold askErr at he
  split at he
  · rename_i hf; exact absurd he hf
  · rename_i hf; exact sound_of (by simpa using hf)

theorem pairs_nil (w : World) : PairsAt w (.slice none 0 0) [] := ⟨rfl, none, 0, rfl, Nat.le_refl _, by decide, fun _ => rfl, fun a h => by cases h⟩

theorem below_ext {w W W' : World} {mb : Nat} (h : Below w.heap.size w W) (hE : Ext [mb] W W') (hm : w.heap.size ≤ mb) : Below w.heap.size w W' := below_of_ext h hE hm

theorem Bounds_any (h : HeapD) (wv tv xv' trv : Value) (turns : List Int) (w : World) (hw : PairsAt w wv h.wet) (ht : IntsAt w tv h.turns) (hx : TriplesAt w xv' h.readings) (htr : IntsAt w trv turns) :
    Calls Try.prog 35 #[hv h wv tv xv', trv] w (fun e w' => ∃ v, e = .returned (.tuple #[v, iv (askErr h turns)]) ∧ PairsAt w' v (boundsOut h turns) ∧ Below w.heap.size w w') := by
  obtain ⟨ow, cw, rfl⟩ := hw.open
  obtain ⟨ot, ct, rfl⟩ := ht.open
  obtain ⟨ox, cx, rfl⟩ := hx.open
  have HW := Lib.hid hw
  have HT := Lib.hid ht
  have HX := Lib.hid hx
  clear hw ht hx
  obtain ⟨oq, cq, rfl⟩ := htr.open
  have HQ := Lib.hid htr
  clear htr
  obtain ⟨E, hE⟩ : ∃ E, askErr h turns = E := ⟨_, rfl⟩
  rw [hE]
  have HE := Lib.hid hE
  clear hE
  go_enter Try.func35, Try.ntmps35
  go_wp2_with fail
  refine (asked_any h _ _ _ _ turns _ (HW.out.alloc _) (HT.out.alloc _) (HX.out.alloc _) (HQ.out.alloc _)).mono ?_
  rintro e w1 ⟨hb, ⟨hne, rfl⟩ | ⟨h0, wb, mb, rfl, hwb, hmb, hwk⟩⟩
  · rw [HE.out] at hne ⊢
    have HB := Lib.hid hb
    clear hb
    go_wp2_with fail
    go_returns
    exact ⟨.slice none 0 0, by simp, by unfold boundsOut; rw [HE.out, if_neg hne]; exact pairs_nil _, bgo (bgoAlloc (Below.refl _ _) _) HB.out⟩
  · have hE0 : E = 0 := by rw [← HE.out]; exact h0
    subst hE0
    have HB := Lib.hid hb
    have hS := ask_sound h0
    have HBD := Lib.hid (bounds_any h hS _ _ _ _ turns wb mb w1 hwk ((HW.out.alloc _).below hb (Nat.le_refl _)) ((HT.out.alloc _).below hb (Nat.le_refl _)) ((HX.out.alloc _).below hb (Nat.le_refl _)) ((HQ.out.alloc _).below hb (Nat.le_refl _)))
    have hmb' : w.heap.size ≤ mb := by simp at hmb; omega
    clear hb hwk h0 hS
    go_wp2_with fail
    refine HBD.out.mono ?_
    rintro e w2 ⟨v, rfl, hown, hcc, hE2⟩
    have HB2 := Lib.hid (below_of_ext (bgo (bgoAlloc (Below.refl _ _) _) HB.out) hE2 hmb')
    have hsl := SlAt.of_owns hown
    obtain ⟨vo, vc, rfl⟩ := owns_slice hown
    have HSL := Lib.hid hsl
    clear hown hcc hE2 hsl
    go_wp2_with fail
    go_returns
    refine ⟨.slice vo _ vc, by simp; rfl, ?_, HB2.out⟩
    unfold boundsOut
    rw [HE.out, if_pos rfl]
    exact HSL.out

/-! ### Keeps -/
def keepsV (h : HeapD) (turns : List Int) : Int :=
  if askErr h turns ≠ 0 then 0 else if (everyL h turns).all (keptL h) = true then 1 else if (everyL h turns).any (keptL h) = true then 3 else 2

theorem Keeps_any (h : HeapD) (wv tv xv' trv : Value) (turns : List Int) (w : World) (hw : PairsAt w wv h.wet) (ht : IntsAt w tv h.turns) (hx : TriplesAt w xv' h.readings) (htr : IntsAt w trv turns) :
    Calls Try.prog 42 #[hv h wv tv xv', trv] w (fun e w' => e = .returned (.tuple #[iv (keepsV h turns), iv (askErr h turns)]) ∧ Below w.heap.size w w') := by
  obtain ⟨ow, cw, rfl⟩ := hw.open
  obtain ⟨ot, ct, rfl⟩ := ht.open
  obtain ⟨ox, cx, rfl⟩ := hx.open
  have HW := Lib.hid hw
  have HT := Lib.hid ht
  have HX := Lib.hid hx
  clear hw ht hx
  obtain ⟨oq, cq, rfl⟩ := htr.open
  have HQ := Lib.hid htr
  clear htr
  obtain ⟨E, hE⟩ : ∃ E, askErr h turns = E := ⟨_, rfl⟩
  obtain ⟨V, hV⟩ : ∃ V, keepsV h turns = V := ⟨_, rfl⟩
  rw [hE, hV]
  have HE := Lib.hid hE
  have HV := Lib.hid hV
  clear hE hV
  go_enter Try.func42, Try.ntmps42
  go_wp2_with fail
  refine (asked_any h _ _ _ _ turns _ (HW.out.alloc _) (HT.out.alloc _) (HX.out.alloc _) (HQ.out.alloc _)).mono ?_
  rintro e w1 ⟨hb, ⟨hne, rfl⟩ | ⟨h0, wb, mb, rfl, hwb, hmb, hwk⟩⟩
  · rw [HE.out] at hne ⊢
    have hv0 : V = 0 := by
      have hne' : askErr h turns ≠ 0 := by rw [HE.out]; exact hne
      rw [← HV.out]
      unfold keepsV
      rw [if_pos hne']
    subst hv0
    have HB := Lib.hid hb
    clear hb
    go_wp2_with fail
    go_returns
    exact ⟨by simp, bgo (bgoAlloc (Below.refl _ _) _) HB.out⟩
  · have hE0 : E = 0 := by rw [← HE.out]; exact h0
    subst hE0
    have HB := Lib.hid hb
    have hS := ask_sound h0
    have HEV := Lib.hid (every_any h hS _ _ _ _ turns wb mb w1 hwk ((HW.out.alloc _).below hb (Nat.le_refl _)) ((HT.out.alloc _).below hb (Nat.le_refl _)) ((HX.out.alloc _).below hb (Nat.le_refl _)) ((HQ.out.alloc _).below hb (Nat.le_refl _)))
    have hmb' : w.heap.size + 1 ≤ mb := by simpa using hmb
    have hl0 := hS.last0
    have hl9 := hS.last9
    have hbx : w1.heap[w.heap.size]? = some (.cells #[.int .i64 h.last, .int .i64 h.size, .int .i64 h.cool, .int .i64 h.die, .int .i64 h.burn, .int .i64 h.start.1, .int .i64 h.start.2, .slice ow h.wet.length cw, .slice ot h.turns.length ct, .slice ox h.readings.length cx] 40 (0, 0)) := (hb.block _ (by simp)).trans (heap_new0 _ _)
    have HVV : Hid (V = if (everyL h turns).all (keptL h) = true then 1 else if (everyL h turns).any (keptL h) = true then 3 else 2) := Lib.hid (by
      rw [← HV.out]; unfold keepsV; rw [if_neg (by rw [h0]; simp)])
    have hten := everyL_ten (h := h) (turns := turns)
    generalize everyL h turns = ls at *
    have HBX := Lib.hid hbx
    have HTEN := Lib.hid hten
    clear hb hwk h0 hS hbx hten
    go_wp2_with fail
    refine HEV.out.mono ?_
    rintro e w2 ⟨v, rfl, hown, hcc, hE2⟩
    have hB2 := below_of_ext (bgo (bgoAlloc (Below.refl _ _) _) HB.out) hE2 (by omega)
    have hbx2 := (hE2.block w.heap.size (Array.getElem?_eq_some_iff.1 HBX.out).1 (by simp; omega)).trans HBX.out
    have hsl : HeatsAt w2 v ls := ⟨SlAt.of_owns hown, HTEN.out⟩
    obtain ⟨vo, vc, rfl⟩ := owns_slice hown
    have hc0 : ∀ i, w2.cell? ⟨w.heap.size, i, none⟩ = (#[.int .i64 h.last, .int .i64 h.size, .int .i64 h.cool, .int .i64 h.die, .int .i64 h.burn, .int .i64 h.start.1, .int .i64 h.start.2, .slice ow h.wet.length cw, .slice ot h.turns.length ct, .slice ox h.readings.length cx] : Array Value)[i]? := fun i => by
      simp only [World.cell?, hbx2]; rfl
    have hs2 := (Array.getElem?_eq_some_iff.1 hbx2).1
    have HB2 := Lib.hid hB2
    have HSL := Lib.hid hsl
    clear hown hcc hE2 hsl hB2 hbx2
    go_wp2_with fail
    have hkc : ∀ x ∈ ls, ∀ W, Calls Try.prog 85 ((#[hv h (.slice ow h.wet.length cw) (.slice ot h.turns.length ct) (.slice ox h.readings.length cx)] : Array Value).push (aggI x) ++ #[]) W (PV (.bool (keptL h x)) W) :=
      fun x hx W => kept_any h ow ot ox _ _ _ _ _ _ x (HTEN.out x hx) W hl0 hl9
    have HKC := Lib.hid hkc
    clear hkc
    refine (allH_pure ls (.slice vo ls.length vc) 85 #[hv h (.slice ow h.wet.length cw) (.slice ot h.turns.length ct) (.slice ox h.readings.length cx)] #[] (keptL h) w2 HSL.out (enters_of Try.func85 (by kernel_rfl) rfl) (fun x hx W _ => HKC.out x hx W)).mono ?_
    rintro e w3 ⟨rfl, hb3⟩
    have HB3 := Lib.hid hb3
    have hc3 : ∀ i, w3.cell? ⟨w.heap.size, i, none⟩ = (#[.int .i64 h.last, .int .i64 h.size, .int .i64 h.cool, .int .i64 h.die, .int .i64 h.burn, .int .i64 h.start.1, .int .i64 h.start.2, .slice ow h.wet.length cw, .slice ot h.turns.length ct, .slice ox h.readings.length cx] : Array Value)[i]? := fun i => (hb3.cell (p := ⟨w.heap.size, i, none⟩) hs2).trans (hc0 i)
    clear hb3 hc0
    obtain ⟨A, hA⟩ : ∃ A, ls.all (keptL h) = A := ⟨_, rfl⟩
    rw [hA] at HVV ⊢
    clear hA
    cases A
    · go_wp2_with fail
      refine (contH_pure ls (.slice vo ls.length vc) 85 #[hv h (.slice ow h.wet.length cw) (.slice ot h.turns.length ct) (.slice ox h.readings.length cx)] #[] (keptL h) w3 (HSL.out.below HB3.out) (enters_of Try.func85 (by kernel_rfl) rfl) (fun x hx W _ => HKC.out x hx W)).mono ?_
      rintro e w4 ⟨rfl, hb4⟩
      have HB4 := Lib.hid hb4
      clear hb4 hc3
      obtain ⟨A, hA⟩ : ∃ A, ls.any (keptL h) = A := ⟨_, rfl⟩
      rw [hA] at HVV ⊢
      clear hA
      cases A
      all_goals
        go_wp2_with fail
        go_returns
        exact ⟨by rw [HVV.out]; simp, bgo (bgo HB2.out HB3.out) HB4.out⟩
    · go_wp2_with fail
      go_returns
      exact ⟨by rw [HVV.out]; simp, bgo HB2.out HB3.out⟩

theorem ProveKeeps_any (h : HeapD) (wv tv xv' trv : Value) (turns : List Int) (w : World) (hw : PairsAt w wv h.wet) (ht : IntsAt w tv h.turns) (hx : TriplesAt w xv' h.readings) (htr : IntsAt w trv turns) :
    Calls Try.prog 50 #[hv h wv tv xv', trv] w (fun e w' => e = .returned (.bool (askErr h turns == 0 && keepsV h turns == 1)) ∧ Below w.heap.size w w') := by
  obtain ⟨ow, cw, rfl⟩ := hw.open
  obtain ⟨ot, ct, rfl⟩ := ht.open
  obtain ⟨ox, cx, rfl⟩ := hx.open
  have HW := Lib.hid hw
  have HT := Lib.hid ht
  have HX := Lib.hid hx
  clear hw ht hx
  obtain ⟨oq, cq, rfl⟩ := htr.open
  have HK := Lib.hid (Keeps_any h _ _ _ _ turns _ (HW.out.alloc (.cells #[.int .i64 h.last, .int .i64 h.size, .int .i64 h.cool, .int .i64 h.die, .int .i64 h.burn, .int .i64 h.start.1, .int .i64 h.start.2, .slice ow h.wet.length cw, .slice ot h.turns.length ct, .slice ox h.readings.length cx] 40)) (HT.out.alloc _) (HX.out.alloc _) (htr.alloc _))
  clear htr
  generalize askErr h turns = E at *
  generalize keepsV h turns = V at *
  go_enter Try.func50, Try.ntmps50
  go_wp2_with fail
  refine HK.out.mono ?_
  rintro e w1 ⟨rfl, hb⟩
  have HB := Lib.hid (bgo (bgoAlloc (Below.refl _ _) _) hb)
  clear hb
  by_cases hE : E = 0
  · subst hE
    go_wp2_with fail
    go_returns
    exact ⟨by simp, HB.out⟩
  · have hE2 : (E == 0) = false := by simpa using hE
    go_wp2_with fail
    go_returns
    exact ⟨by simp [hE2], HB.out⟩

end Go.Proofs.Ytoibfafmnaooaaa

namespace Go.Proofs.Ytoibfafmnaooaaa
open Go.RowKit Go.RG Go.SL Go.Shelf Cou
set_option maxHeartbeats 400000
set_option maxRecDepth 10000

theorem some_any (h : HeapD) (a b c : Value) (fid : Nat) (p : Int → Bool) (r : Rng) (w : World) (eg : ∀ args w, (callFunc fid args).run Try.prog w = .ok (.enter fid args) w)
    (hof : ∀ n W, Calls Try.prog fid #[hv h a b c, iv n] W (PV (.bool (p n)) W)) :
    Calls Try.prog 68 #[.agg #[.func (.func fid) #[] #[]], hv h a b c, rv r] w (PV (.bool (p r.1 || p r.2)) w) := by
  have HF1 := Lib.hid (fun W => hof r.1 W)
  have HF2 := Lib.hid (fun W => hof r.2 W)
  clear hof
  generalize p r.1 = q1 at *
  generalize p r.2 = q2 at *
  go_enter Try.func68, Try.ntmps68
  go_wp2_with fail
  refine (HF1.out _).mono ?_
  rintro e w1 ⟨rfl, hb⟩
  obtain ⟨hc, hf⟩ := bcell hb
  have hz0 := hb.size
  simp only [World.size_alloc] at hz0
  have z0 : w.heap.size < w1.heap.size := by omega
  have z1 : w.heap.size + 1 < w1.heap.size := by omega
  have z2 : w.heap.size + 1 + 1 < w1.heap.size := by omega
  have HB := Lib.hid (show Below w.heap.size w w1 from (by repeat (first | exact Below.refl _ _ | assumption | refine bgo ?_ (by assumption) | refine bgoAlloc ?_ _ | refine bgoDrew ?_ | refine bgoSet ?_ (by simp; omega) _)))
  clear hb
  cases q1
  · go_wp2_with fail
    refine (HF2.out _).mono ?_
    rintro e w2 ⟨rfl, hb⟩
    have HB2 := Lib.hid hb
    clear hb hc hf
    go_wp2_with fail
    go_returns
    exact ⟨by simp, bgo HB.out HB2.out⟩
  · go_wp2_with fail
    go_returns
    exact ⟨by simp, HB.out⟩

/-! ### Fear -/
def fearAt (h : HeapD) (r : Rng) : Bool := lostB h r.1 || lostB h r.2
def fearD (h : HeapD) (r : Rng) (i : Nat) : Int × Bool × Bool := ((i : Int), decide (h.burn < r.1) || decide (h.burn < r.2), decide (r.1 < h.die) || decide (r.2 < h.die))
def fearFrom (h : HeapD) : List Rng → Nat → Option (Int × Bool × Bool)
  | [], _ => none
  | r :: R, i => if fearAt h r then some (fearD h r i) else fearFrom h R (i + 1)
def fearErr (h : HeapD) (turns : List Int) : Int := if askErr h turns ≠ 0 then askErr h turns else if (fearFrom h (boundsOut h turns) 0).isSome then 0 else 7
def fearOut (h : HeapD) (turns : List Int) : Int × Bool × Bool := (fearFrom h (boundsOut h turns) 0).getD (0, false, false)
abbrev dv (d : Int × Bool × Bool) : Value := .agg #[iv d.1, .bool d.2.1, .bool d.2.2]

theorem fearFrom_at (h : HeapD) : ∀ (R : List Rng) (k i : Nat) (hk : k < R.length), (∀ j (hj : j < k), fearAt h (R[j]'(by omega)) = false) → fearAt h R[k] = true → fearFrom h R i = some (fearD h R[k] (i + k)) := by
  intro R
  induction R with
  | nil => intro k i hk; simp at hk
  | cons r R ih =>
    intro k i hk h1 h2
    unfold fearFrom
    cases k with
    | zero =>
      have h2' : fearAt h r = true := h2
      rw [if_pos h2']; rfl
    | succ k =>
      have h0 : fearAt h r = false := h1 0 (by omega)
      rw [if_neg (by rw [h0]; simp), ih k (i + 1) (by simpa using hk) (fun j hj => h1 (j + 1) (by omega)) h2]
      rw [show i + 1 + k = i + (k + 1) by omega]
      rfl
theorem fearFrom_no (h : HeapD) : ∀ (R : List Rng) (i : Nat), (∀ j (hj : j < R.length), fearAt h R[j] = false) → fearFrom h R i = none := by
  intro R
  induction R with
  | nil => intro i _; rfl
  | cons r R ih =>
    intro i h1
    unfold fearFrom
    have h0 : fearAt h r = false := h1 0 (by simp)
    rw [if_neg (by rw [h0]; simp)]
    exact ih (i + 1) (fun j hj => h1 (j + 1) (by simpa using hj))

theorem fear_results (tmps : Array Value) (W : World) (g : Nat) (cs : Array Value) (x : Value) (hp : tmps.getD 4 undef = .pointer (some ⟨g, 0, none⟩)) (hx : tmps.getD 5 undef = x) {t : TypeId} (hg : W.heap[g]? = some (.cells cs t (0, 0))) (hi : cs.size = 3) :
    (results Try.f20 tmps).run Try.prog W = .ok (.tuple #[.agg cs, x]) W := by
  rw [results_cell_tmp Try.results20, hp, hx]
  have := run_loadVar_row (P := Try.prog) W g t 32 cs (0, 0) _ hg Try.underlying32 rfl (by rw [hi]; kernel_rfl)
  simp [asAddr, this]

theorem set_three {W : World} {g : Nat} {t : TypeId} {x y z : Value} (h : W.heap[g]? = some (.cells #[x, y, z] t (0, 0))) (a b c : Value) :
    (((W.setCell ⟨g, 0, none⟩ a).setCell ⟨g, 1, none⟩ b).setCell ⟨g, 2, none⟩ c).heap[g]? = some (.cells #[a, b, c] t (0, 0)) := set_block (set_block (set_block h a) b) c

theorem Fear_any (h : HeapD) (wv tv xv' trv : Value) (turns : List Int) (w : World) (hw : PairsAt w wv h.wet) (ht : IntsAt w tv h.turns) (hx : TriplesAt w xv' h.readings) (htr : IntsAt w trv turns) :
    Calls Try.prog 20 #[hv h wv tv xv', trv] w (fun e w' => e = .returned (.tuple #[dv (fearOut h turns), iv (fearErr h turns)]) ∧ Below w.heap.size w w') := by
  obtain ⟨ow, cw, rfl⟩ := hw.open
  obtain ⟨ot, ct, rfl⟩ := ht.open
  obtain ⟨ox, cx, rfl⟩ := hx.open
  have HW := Lib.hid hw
  have HT := Lib.hid ht
  have HX := Lib.hid hx
  clear hw ht hx
  obtain ⟨oq, cq, rfl⟩ := htr.open
  have HQ := Lib.hid htr
  clear htr
  obtain ⟨E, hE⟩ : ∃ E, askErr h turns = E := ⟨_, rfl⟩
  obtain ⟨V, hV⟩ : ∃ V, fearErr h turns = V := ⟨_, rfl⟩
  obtain ⟨D, hD⟩ : ∃ D, fearOut h turns = D := ⟨_, rfl⟩
  rw [hD, hV]
  have HE := Lib.hid hE
  have HV := Lib.hid hV
  have HD := Lib.hid hD
  clear hE hV hD
  go_enter Try.func20, Try.ntmps20
  go_wp2_with fail
  refine (asked_any h _ _ _ _ turns _ ((HW.out.alloc _).alloc _) ((HT.out.alloc _).alloc _) ((HX.out.alloc _).alloc _) ((HQ.out.alloc _).alloc _)).mono ?_
  rintro e w1 ⟨hb, ⟨hne, rfl⟩ | ⟨h0, wb, mb, rfl, hwb, hmb, hwk⟩⟩
  · rw [HE.out] at hne ⊢
    have hne' : askErr h turns ≠ 0 := by rw [HE.out]; exact hne
    have hv0 : V = E := by rw [← HV.out]; unfold fearErr; rw [if_pos hne']; exact HE.out
    have hd0 : D = (0, false, false) := by
      rw [← HD.out]
      unfold fearOut boundsOut
      rw [if_neg hne']
      rfl
    subst hv0
    subst hd0
    have hblk : w1.heap[w.heap.size + 1]? = some (.cells #[iv 0, .bool false, .bool false] 32 (0, 0)) := (hb.block _ (by simp)).trans (heap_new1 _ _ _)
    have hg : ∀ i, w1.cell? ⟨w.heap.size + 1, i, none⟩ = (#[iv 0, .bool false, .bool false] : Array Value)[i]? := fun i => by
      simp only [World.cell?, hblk]; rfl
    have hfr := fun k => frozen_of_block hblk k
    have hs1 := (Array.getElem?_eq_some_iff.1 hblk).1
    have HB := Lib.hid hb
    clear hb hne'
    go_wp2_with fail
    refine bodyPost_ret (v := .tuple #[dv ((0, false, false) : Int × Bool × Bool), iv V]) (fear_results _ _ (w.heap.size + 1) #[iv (((0, false, false) : Int × Bool × Bool)).1, .bool (((0, false, false) : Int × Bool × Bool)).2.1, .bool (((0, false, false) : Int × Bool × Bool)).2.2] (iv V) rfl rfl (set_three hblk _ _ _) rfl) rfl ?_
    exact ⟨rfl, bgoSet (bgoSet (bgoSet (bgo (bgoAlloc (bgoAlloc (Below.refl _ _) _) _) HB.out) (by show w.heap.size ≤ w.heap.size + 1; omega) _) (by show w.heap.size ≤ w.heap.size + 1; omega) _) (by show w.heap.size ≤ w.heap.size + 1; omega) _⟩
  · have hE0 : E = 0 := by rw [← HE.out]; exact h0
    subst hE0
    have hS := ask_sound h0
    have HBD := Lib.hid (bounds_any h hS _ _ _ _ turns wb mb w1 hwk (((HW.out.alloc _).alloc _).below hb (Nat.le_refl _)) (((HT.out.alloc _).alloc _).below hb (Nat.le_refl _)) (((HX.out.alloc _).alloc _).below hb (Nat.le_refl _)) (((HQ.out.alloc _).alloc _).below hb (Nat.le_refl _)))
    have hmb' : w.heap.size + 2 ≤ mb := by simpa using hmb
    have hbo : boundsOut h turns = boundsL (h.last + 1).toNat (everyL h turns) := by unfold boundsOut; rw [if_pos h0]
    rw [← hbo] at HBD
    have hVV : V = if (fearFrom h (boundsOut h turns) 0).isSome then 0 else 7 := by rw [← HV.out]; unfold fearErr; rw [if_neg (by rw [h0]; simp)]
    have hDD : D = (fearFrom h (boundsOut h turns) 0).getD (0, false, false) := HD.out.symm
    have hb0 : w1.heap[w.heap.size]? = some (.cells #[.int .i64 h.last, .int .i64 h.size, .int .i64 h.cool, .int .i64 h.die, .int .i64 h.burn, .int .i64 h.start.1, .int .i64 h.start.2, .slice ow h.wet.length cw, .slice ot h.turns.length ct, .slice ox h.readings.length cx] 40 (0, 0)) := (hb.block _ (by simp; omega)).trans ((Below.heap_alloc _ _ _ (by simp)).trans (heap_new0 _ _))
    have hb1 : w1.heap[w.heap.size + 1]? = some (.cells #[iv 0, .bool false, .bool false] 32 (0, 0)) := (hb.block _ (by simp)).trans (heap_new1 _ _ _)
    generalize boundsOut h turns = R at *
    have HVV := Lib.hid hVV
    have HDD := Lib.hid hDD
    have HBB := Lib.hid (And.intro hb0 hb1)
    have HB := Lib.hid hb
    clear hb hwk h0 hS hVV hDD hb0 hb1 hbo
    go_wp2_with fail
    refine HBD.out.mono ?_
    rintro e w2 ⟨v, rfl, hown, hcc, hE2⟩
    have HB2 := Lib.hid (below_of_ext (bgo (bgoAlloc (bgoAlloc (Below.refl _ _) _) _) HB.out) hE2 (by omega))
    have hsl : PairsAt w2 v R := SlAt.of_owns hown
    have hb0 := (hE2.block w.heap.size (Array.getElem?_eq_some_iff.1 HBB.out.1).1 (by simp; omega)).trans HBB.out.1
    have hb1 := (hE2.block (w.heap.size + 1) (Array.getElem?_eq_some_iff.1 HBB.out.2).1 (by simp; omega)).trans HBB.out.2
    have hlen := hsl.len
    obtain ⟨vo, vc, rfl⟩ := owns_slice hown
    have HSL := Lib.hid hsl
    have HBB2 := Lib.hid (And.intro hb0 hb1)
    clear hown hcc hE2 hsl hb0 hb1
    go_wp2_with fail
    go_loopw [24] (fun u wr => ∃ k : Nat, k ≤ R.length ∧ u = .int .i64 k ∧ Below w2.heap.size w2 wr ∧ ∀ j, j < k → fearAt h (R.getD j (0, 0)) = false) (fun u _ => R.length - (intOf u).toNat)
    case atStart => exact ⟨0, Nat.zero_le _, rfl, Below.refl _ _, fun j hj => by omega⟩
    case round =>
      obtain ⟨k, hk, rfl, hB, hno⟩ := hrel
      have hb0 := (hB.block _ (Array.getElem?_eq_some_iff.1 HBB2.out.1).1).trans HBB2.out.1
      have hb1 := (hB.block _ (Array.getElem?_eq_some_iff.1 HBB2.out.2).1).trans HBB2.out.2
      have s0 := (Array.getElem?_eq_some_iff.1 hb0).1
      have s1 := (Array.getElem?_eq_some_iff.1 hb1).1
      have hc0 : ∀ i, wr.cell? ⟨w.heap.size, i, none⟩ = (#[.int .i64 h.last, .int .i64 h.size, .int .i64 h.cool, .int .i64 h.die, .int .i64 h.burn, .int .i64 h.start.1, .int .i64 h.start.2, .slice ow h.wet.length cw, .slice ot h.turns.length ct, .slice ox h.readings.length cx] : Array Value)[i]? := fun i => by
        simp only [World.cell?, hb0]; rfl
      have HNO := Lib.hid hno
      have HBW := Lib.hid hB
      by_cases hlt : k < R.length
      · have hsl := HSL.out.below hB (Nat.le_refl _)
        obtain ⟨b, off, rfl, hb, d0, d1⟩ := PairsAt.cell hsl hlt
        have hgd : R.getD k (0, 0) = R[k] := by simp [List.getD, hlt]
        have hltI : (k : Int) < R.length := by omega
        have hat : ∀ j (hj : j < k), fearAt h (R[j]'(by omega)) = false := fun j hj => by have := hno j hj; simpa [List.getD, show j < R.length by omega] using this
        have HAT := Lib.hid (fun (hf : fearAt h R[k] = true) => fearFrom_at h R k 0 hlt hat hf)
        generalize R[k] = r at *
        have HGD := Lib.hid hgd
        have HB1 := Lib.hid hb1
        clear hno hB hsl hgd hat hb0 hb1
        have h67 := fun W => some_any h (.slice ow h.wet.length cw) (.slice ot h.turns.length ct) (.slice ox h.readings.length cx) 67 (lostB h) r W (enters_of Try.func67 (by kernel_rfl) rfl) (fun n W => lost_any h _ _ _ n W)
        have H67 := Lib.hid h67
        clear h67
        obtain ⟨q, hq⟩ : ∃ q, fearAt h r = q := ⟨_, rfl⟩
        have hq' : (lostB h r.1 || lostB h r.2) = q := hq
        rw [hq'] at H67
        have HQQ := Lib.hid hq
        clear hq hq'
        go_wp2_with fail
        refine (H67.out _).mono ?_
        rintro e w3 ⟨rfl, hb3⟩
        have z9 : wr.heap.size < w3.heap.size := by have := hb3.size; simp at this; omega
        have hbr : w3.heap[wr.heap.size]? = some (.cells #[iv r.1, iv r.2] 36 (0, 0)) := (hb3.block _ (by simp)).trans (heap_new0 _ _)
        have hc9 : ∀ i, w3.cell? ⟨wr.heap.size, i, none⟩ = (#[iv r.1, iv r.2] : Array Value)[i]? := fun i => by
          simp only [World.cell?, hbr]; rfl
        have hB3 : Below wr.heap.size wr w3 := bgo (bgoAlloc (Below.refl _ _) _) hb3
        have hc3 : ∀ i, w3.cell? ⟨w.heap.size, i, none⟩ = (#[.int .i64 h.last, .int .i64 h.size, .int .i64 h.cool, .int .i64 h.die, .int .i64 h.burn, .int .i64 h.start.1, .int .i64 h.start.2, .slice ow h.wet.length cw, .slice ot h.turns.length ct, .slice ox h.readings.length cx] : Array Value)[i]? := fun i => (hB3.cell (p := ⟨w.heap.size, i, none⟩) s0).trans (hc0 i)
        have hb13 := (hB3.block _ s1).trans HB1.out
        have s03 : w.heap.size < w3.heap.size := by omega
        have s13 := (Array.getElem?_eq_some_iff.1 hb13).1
        have HB3 := Lib.hid hB3
        have HB13 := Lib.hid hb13
        clear hb3 hbr hB3 hb13 hc0
        cases q
        · go_wp2_with fail
          go_roundw
          case rel => exact ⟨k + 1, by omega, by go_num, bgo HBW.out HB3.out, fun j hj => by
            by_cases e : j = k
            · subst e; rw [HGD.out]; exact HQQ.out
            · exact HNO.out j (by omega)⟩
          case measure => simp [intOf]; omega
        · have hr := HAT.out HQQ.out
          have hV0 : V = 0 := by rw [HVV.out, hr]; rfl
          have hD0 : D = fearD h r k := by rw [HDD.out, hr]; simp
          subst hV0
          subst hD0
          go_wp2_with fail
          refine wp_region_rg 10 [] none [(4, Spec.val (.bool (fearD h r k).2.1)), (8, Spec.val (.bool (fearD h r k).2.2))] (by kernel_rfl) (by kernel_rfl) ?_
          simp only [List.take_succ_cons, List.take_zero, List.drop_succ_cons, List.drop_zero]
          repeat (refine tree_det (by rfl) _ (by rfl) (fun W hW => by go_simp; (try simp (disch := omega) only [IntWalk.i64_in, Int.tdiv_eq_ediv_of_nonneg]); try rfl) ?_; simp only [Act.put, List.setIfInBounds_toArray, List.set_cons_succ, List.set_cons_zero])
          refine tree_val _ (by rfl) (by rfl) 68 _ (fun W hW => by go_simp; try rfl) (fun W hE hF => by exact some_any h _ _ _ 69 (fun n => decide (h.burn < n)) r W (enters_of Try.func69 (by kernel_rfl) rfl) (fun n W => burns_any h _ _ _ n W)) ?_
          simp only [Act.put, List.setIfInBounds_toArray, List.set_cons_succ, List.set_cons_zero]
          repeat (refine tree_det (by rfl) _ (by rfl) (fun W hW => by go_simp; (try simp (disch := omega) only [IntWalk.i64_in, Int.tdiv_eq_ediv_of_nonneg]); try rfl) ?_; simp only [Act.put, List.setIfInBounds_toArray, List.set_cons_succ, List.set_cons_zero])
          refine tree_val _ (by rfl) (by rfl) 68 _ (fun W hW => by go_simp; try rfl) (fun W hE hF => by exact some_any h _ _ _ 70 (fun n => decide (n < h.die)) r W (enters_of Try.func70 (by kernel_rfl) rfl) (fun n W => dies_any h _ _ _ n W)) ?_
          simp only [Act.put, List.setIfInBounds_toArray, List.set_cons_succ, List.set_cons_zero]
          repeat (refine tree_det (by rfl) _ (by rfl) (fun W hW => by go_simp; (try simp (disch := omega) only [IntWalk.i64_in, Int.tdiv_eq_ediv_of_nonneg]); try rfl) ?_; simp only [Act.put, List.setIfInBounds_toArray, List.set_cons_succ, List.set_cons_zero])
          intro W4 hE4 hF4
          have hE : Ext [] w3 W4 := hE4
          have hb14 := (hE.block _ s13 (by simp)).trans HB13.out
          have hg : ∀ i, W4.cell? ⟨w.heap.size + 1, i, none⟩ = (#[iv 0, .bool false, .bool false] : Array Value)[i]? := fun i => by
            simp only [World.cell?, hb14]; rfl
          have hfr := fun k => frozen_of_block hb14 k
          have s14 := (Array.getElem?_eq_some_iff.1 hb14).1
          have HE4 := Lib.hid hE
          have HB14 := Lib.hid hb14
          clear hE hE4 hF4 hb14 hc3 hc9
          go_wp2_with fail
          refine bodyPost_ret (v := .tuple #[dv (fearD h r k), iv 0]) (fear_results _ _ (w.heap.size + 1) #[iv ((fearD h r k)).1, .bool ((fearD h r k)).2.1, .bool ((fearD h r k)).2.2] (iv 0) rfl rfl (set_three HB14.out _ _ _) rfl) rfl ?_
          exact ⟨rfl, bgoSet (bgoSet (bgoSet (bgo (bgo (bgo HB2.out HBW.out) HB3.out) HE4.out.below) (by show w.heap.size ≤ w.heap.size + 1; omega) _) (by show w.heap.size ≤ w.heap.size + 1; omega) _) (by show w.heap.size ≤ w.heap.size + 1; omega) _⟩
      · have hkl : k = R.length := by omega
        have hno' : fearFrom h R 0 = none := fearFrom_no h R 0 (fun j hj => by have := hno j (by omega); simpa [List.getD, hj] using this)
        have hV0 : V = 7 := by rw [HVV.out, hno']; rfl
        have hD0 : D = (0, false, false) := by rw [HDD.out, hno']; rfl
        subst hV0
        subst hD0
        have hg : ∀ i, wr.cell? ⟨w.heap.size + 1, i, none⟩ = (#[iv 0, .bool false, .bool false] : Array Value)[i]? := fun i => by
          simp only [World.cell?, hb1]; rfl
        have hfr := fun k => frozen_of_block hb1 k
        have HB14 := Lib.hid hb1
        clear hno hno' hb1 hb0 hc0
        go_wp2_with fail
        refine bodyPost_ret (v := .tuple #[dv ((0, false, false) : Int × Bool × Bool), iv 7]) (fear_results _ _ (w.heap.size + 1) #[iv (((0, false, false) : Int × Bool × Bool)).1, .bool (((0, false, false) : Int × Bool × Bool)).2.1, .bool (((0, false, false) : Int × Bool × Bool)).2.2] (iv 7) rfl rfl (set_three HB14.out _ _ _) rfl) rfl ?_
        exact ⟨rfl, bgoSet (bgoSet (bgoSet (bgo HB2.out HBW.out) (by show w.heap.size ≤ w.heap.size + 1; omega) _) (by show w.heap.size ≤ w.heap.size + 1; omega) _) (by show w.heap.size ≤ w.heap.size + 1; omega) _⟩

end Go.Proofs.Ytoibfafmnaooaaa

namespace Go.Proofs.Ytoibfafmnaooaaa
open Go.RowKit Go.RG Go.SL Go.Shelf Cou
set_option maxHeartbeats 400000
set_option maxRecDepth 10000

/-- What is said of the new heap at work, until shortest is called. -/
def lvPs (B : Nat) (h : HeapD) (a b c : Value) : Pres := fun i _ v W =>
  match i with
  | 4 => ∃ wb mb : Nat, v = .pointer (some ⟨wb, 0, none⟩) ∧ B ≤ mb ∧ WorkAt W wb mb h a b c
  | _ => True

theorem Leave_any (h : HeapD) (wv tv xv' : Value) (w : World) (hw : PairsAt w wv h.wet) (ht : IntsAt w tv h.turns) (hx : TriplesAt w xv' h.readings) :
    Calls Try.prog 28 #[hv h wv tv xv'] w (fun e w' => ∃ v, e = .returned (.tuple #[v, iv (fault h)]) ∧ IntsAt w' v (leaveL h) ∧ Below w.heap.size w w') := by
  obtain ⟨ow, cw, rfl⟩ := hw.open
  obtain ⟨ot, ct, rfl⟩ := ht.open
  obtain ⟨ox, cx, rfl⟩ := hx.open
  have HW := Lib.hid hw
  have HT := Lib.hid ht
  have HX := Lib.hid hx
  clear hw ht hx
  by_cases hf0 : fault h = 0
  case neg =>
    have hl : leaveL h = [] := by unfold leaveL; rw [if_pos hf0]
    rw [hl]
    clear hl
    generalize hff : fault h = f at *
    have HF := Lib.hid hff
    clear hff
    go_enter Try.func28, Try.ntmps28
    go_wp2_with fail
    refine (check_any h _ _ _ _ (HW.out.alloc _) (HT.out.alloc _) (HX.out.alloc _)).mono ?_
    rintro e w' ⟨rfl, hb⟩
    rw [HF.out]
    have HB := Lib.hid hb
    clear hb
    go_wp2_with fail
    go_returns
    exact ⟨.slice none 0 0, by simp, ints_nil _, bgo (bgoAlloc (Below.refl _ _) _) HB.out⟩
  have hS := sound_of hf0
  obtain ⟨c0, hc0⟩ := leaveS_some hS
  have hl : leaveL h = c0 := by unfold leaveL; rw [if_neg (by simpa using hf0), hc0]; rfl
  have hn5 := hS.rdgs
  rw [hl, hf0]
  have HF := Lib.hid hf0
  have HSS := Lib.hid hS
  have HC := Lib.hid hc0
  clear hf0 hS hc0 hl
  go_enter Try.func28, Try.ntmps28
  go_wp2_with fail
  refine (check_any h _ _ _ _ (HW.out.alloc _) (HT.out.alloc _) (HX.out.alloc _)).mono ?_
  rintro e w1 ⟨rfl, hb⟩
  rw [HF.out]
  have hb0 : w1.heap[w.heap.size]? = some (.cells #[.int .i64 h.last, .int .i64 h.size, .int .i64 h.cool, .int .i64 h.die, .int .i64 h.burn, .int .i64 h.start.1, .int .i64 h.start.2, .slice ow h.wet.length cw, .slice ot h.turns.length ct, .slice ox h.readings.length cx] 40 (0, 0)) := (hb.block _ (by simp)).trans (heap_new0 _ _)
  have hc1 : ∀ i, w1.cell? ⟨w.heap.size, i, none⟩ = (#[.int .i64 h.last, .int .i64 h.size, .int .i64 h.cool, .int .i64 h.die, .int .i64 h.burn, .int .i64 h.start.1, .int .i64 h.start.2, .slice ow h.wet.length cw, .slice ot h.turns.length ct, .slice ox h.readings.length cx] : Array Value)[i]? := fun i => by
    simp only [World.cell?, hb0]; rfl
  have s0 := (Array.getElem?_eq_some_iff.1 hb0).1
  have HB := Lib.hid (bgo (bgoAlloc (Below.refl _ _) _) hb)
  clear hb hb0
  go_wp2_with fail
  refine wp_region_rgP 12 [] (some 6) [(4, ⟨fun _ v => ∃ wb : Nat, v = .pointer (some ⟨wb, 0, none⟩), fun _ _ _ => True⟩), (6, ⟨fun _ v => ∃ o c, v = .tuple #[.slice o c0.length c, .bool true], fun _ v W => ∃ s, v = .tuple #[s, .bool true] ∧ IntsAt W s c0⟩)] (lvPs w1.heap.size h (.slice ow h.wet.length cw) (.slice ot h.turns.length ct) (.slice ox h.readings.length cx)) (by kernel_rfl) (by kernel_rfl) ?_
  simp only [List.take_succ_cons, List.take_zero, List.drop_succ_cons, List.drop_zero]
  repeat (refine tree_det (by rfl) _ (by rfl) (fun W hW => by go_simp; (try simp (disch := omega) only [IntWalk.i64_in, Int.tdiv_eq_ediv_of_nonneg]); try rfl) ?_; simp only [Act.put, List.setIfInBounds_toArray, List.set_cons_succ, List.set_cons_zero])
  refine tree_pre _ (by rfl) (by rfl) (by exact ⟨.pointer (some ⟨0, 0, none⟩), 0, rfl⟩) (fun W hE hF hG => ?_) (fun _ _ _ _ _ => trivial) (fun v Wa Wb ho hE => ?_) (fun v hv => ?_)
  · have hE' : ExtN w1.heap.size [] w1 W := hE
    have hs3 := hE'.size
    refine does_enter 71 #[hv h (.slice ow h.wet.length cw) (.slice ot h.turns.length ct) (.slice ox h.readings.length cx)] (by go_simp; try rfl) ?_
    refine (work_any h ow ot ox _ _ _ _ _ _ W).mono ?_
    rintro e W' ⟨wb, mb, rfl, h1, h2, h3, h4⟩
    exact ⟨_, rfl, ⟨wb, rfl⟩, trivial, Ext.of_below h4, ⟨wb, mb, rfl, by omega, h3⟩⟩
  · obtain ⟨wb, mb, rfl, h1, h2⟩ := ho
    exact ⟨wb, mb, rfl, h1, h2.below hE.below (Nat.le_refl _)⟩
  obtain ⟨wb, rfl⟩ := hv
  simp only [Act.put, List.setIfInBounds_toArray, List.set_cons_succ, List.set_cons_zero]
  repeat (refine tree_det (by rfl) _ (by rfl) (fun W hW => by go_simp; (try simp (disch := omega) only [IntWalk.i64_in, Int.tdiv_eq_ediv_of_nonneg]); try rfl) ?_; simp only [Act.put, List.setIfInBounds_toArray, List.set_cons_succ, List.set_cons_zero])
  refine tree_pre _ (by rfl) (by rfl) (by exact ⟨.tuple #[.slice none c0.length 0, .bool true], none, 0, rfl⟩) (fun w2 hE hF hG => ?_) (fun v Wa Wb ho hE => ?_) (fun _ _ _ _ _ => trivial) (fun v hv => ?_)
  · have hE' : Ext [] w1 w2 := hE
    obtain ⟨wb', mb, hwb, hm1, hwk⟩ := hG rfl _ (List.Mem.head _) (by kernel_rfl)
    cases hwb
    have hB2 := bgo HB.out hE'.below
    have hcc := hwk.cache
    refine does_enter 73 #[iv h.readings.length, .func (.func 72) #[.pointer (some ⟨wb, 0, none⟩)] #[]] (by go_simp; try rfl) ?_
    refine (shortest_any h.readings.length (by omega) (canL h) mb h.cool w2 hcc 72 #[.pointer (some ⟨wb, 0, none⟩)] #[] (enters_of Try.func72 (by kernel_rfl) rfl)
      (fun l v W hE3 hc3 hv => by
        have hm : ∀ x ∈ [mb], ∀ o, w2.cell? ⟨x, o, none⟩ = none := fun x hx o => by
          obtain rfl : x = mb := by simpa using hx
          exact hcc.noCell o
        refine (possible_any h HSS.out (.slice ow h.wet.length cw) (.slice ot h.turns.length ct) (.slice ox h.readings.length cx) v l wb mb W (hwk.ext hE3 hc3) ((HW.out.below hB2 (Nat.le_refl _)).ext_other hE3 hm) ((HT.out.below hB2 (Nat.le_refl _)).ext_other hE3 hm) ((HX.out.below hB2 (Nat.le_refl _)).ext_other hE3 hm) hv).mono ?_
        rintro e W' ⟨rfl, h1, h2⟩
        exact ⟨rfl, h1, h2⟩)).mono ?_
    rintro e w3 ⟨⟨_, hE3⟩, ⟨cc, v, hcs, rfl, hiv⟩ | ⟨hnone, _⟩⟩
    · have hceq : cc = c0 := by
        have := HC.out
        unfold leaveS at this
        rw [this] at hcs
        injection hcs with e
        exact e.symm
      subst hceq
      obtain ⟨vo, vc, rfl⟩ := hiv.open
      exact ⟨_, rfl, ⟨vo, vc, rfl⟩, ⟨_, rfl, hiv⟩, ⟨hE3.os, hE3.tape, hE3.output, hE3.size, fun k hk hb _ => hE3.block k hk (by simp; omega)⟩, trivial⟩
    · have := HC.out
      unfold leaveS at this
      rw [this] at hnone
      cases hnone
  · obtain ⟨s, hs, hiv⟩ := ho
    exact ⟨s, hs, hiv.below (Ext.below hE) (Nat.le_refl _)⟩
  obtain ⟨vo, vc, rfl⟩ := hv
  simp only [Act.put, List.setIfInBounds_toArray, List.set_cons_succ, List.set_cons_zero]
  repeat (refine tree_det (by rfl) _ (by rfl) (fun W hW => by go_simp; (try simp (disch := omega) only [IntWalk.i64_in, Int.tdiv_eq_ediv_of_nonneg]); try rfl) ?_; simp only [Act.put, List.setIfInBounds_toArray, List.set_cons_succ, List.set_cons_zero])
  intro w4 hE4 hF4
  have hB4 := below_extN (show ExtN w1.heap.size [] w1 w4 from hE4) (Nat.le_refl _)
  obtain ⟨s, hs, hiv⟩ := hF4 _ (List.Mem.head _)
  cases hs
  have HR := Lib.hid (And.intro hiv (bgo HB.out hB4))
  clear hE4 hF4 hB4 hiv hc1
  go_wp2_with fail
  go_returns
  exact ⟨_, by simp, HR.out.1, HR.out.2⟩

end Go.Proofs.Ytoibfafmnaooaaa

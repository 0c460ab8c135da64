/-
  Contracts of package couch, twentieth part: bounds.
-/
import Derived.WalkKit
import Derived.WalkLawsBesides
import Derived.WalkSpells
import Derived.Outline
import Derived.Handy
import Derived.KernelRfl
import Derived.Lib.Hide
import Derived.Test.YtoibfafmnaooaaaW20
namespace Go.Proofs.Ytoibfafmnaooaaa
open Go.RowKit Go.RG Go.SL Go.Shelf Cou
set_option maxHeartbeats 400000
set_option maxRecDepth 10000

theorem flat_at' {α : Type} (f : α → List Value) (sz : Nat) : ∀ (l : List α), (∀ x ∈ l, (f x).length = sz) → ∀ (k j : Nat) (hk : k < l.length), j < sz → (l.flatMap f)[k * sz + j]? = (f l[k])[j]? := by
  intro l
  induction l with
  | nil => intro _ k j hk; simp at hk
  | cons x l ih =>
    intro hf k j hk hj
    have hx := hf x (by simp)
    cases k with
    | zero => simp [List.flatMap_cons, List.getElem?_append_left (show j < (f x).length by rw [hx]; exact hj)]
    | succ k =>
      have e : (k + 1) * sz + j = (f x).length + (k * sz + j) := by rw [hx, Nat.add_mul]; omega
      rw [List.flatMap_cons, e, List.getElem?_append_right (by omega), Nat.add_sub_cancel_left, ih (fun y hy => hf y (by simp [hy])) k j (by simpa using hk) hj]
      rfl

/-- An element of a slice of arrays. -/
theorem owns_at {w : World} {base : Nat} {e : TypeId} {q : Nat} {v : Value} {ls : List (List Int)} (h : w.ownsRow base e q v ls.length (ls.flatMap intCells)) (hl : ∀ x ∈ ls, x.length = q) {k : Nat} (hk : k < ls.length) :
    ∃ g c, v = .slice (some ⟨g, 0, none⟩) ls.length c ∧ g < w.heap.size ∧ w.rangeAt g (k * q) (intCells ls[k]) := by
  obtain ⟨h1, ⟨hv, h2⟩ | ⟨g, c, cs, hv, hb, hc, hn, hm, hs, hx⟩⟩ := h
  · omega
  · refine ⟨g, c, hv, (Array.getElem?_eq_some_iff.1 hc).1, fun j u hj => ?_⟩
    have hj' : j < q := by have := (List.getElem?_eq_some_iff.1 hj).1; simpa [intCells, hl _ (List.getElem_mem hk)] using this
    have e1 : (ls.flatMap intCells)[k * q + j]? = some u := by
      rw [flat_at' intCells q ls (fun x hx => by simp [intCells, hl x hx]) k j hk hj']; exact hj
    rw [← hx, List.getElem?_take] at e1
    split at e1
    · simp only [World.cell?, hc]; simpa using e1
    · cases e1

theorem pairCells_set : ∀ (R : List Rng) (i : Nat) (r : Rng), i < R.length → pairCells (R.set i r) = ((pairCells R).set (i * 2) (iv r.1)).set (i * 2 + 1) (iv r.2) := by
  intro R
  induction R with
  | nil => intro i r hi; simp at hi
  | cons x R ih =>
    intro i r hi
    cases i with
    | zero => simp [pairCells]
    | succ i =>
      have := ih i r (by simpa using hi)
      simp only [pairCells, List.set_cons_succ, List.flatMap_cons] at this ⊢
      rw [show (i + 1) * 2 = i * 2 + 1 + 1 by omega]
      simp only [List.cons_append, List.nil_append, List.set_cons_succ]
      rw [this]

theorem owns_set {w : World} {base : Nat} {e : TypeId} {size n : Nat} {g c : Nat} {xs : List Value} (h : w.ownsRow base e size (.slice (some ⟨g, 0, none⟩) n c) n xs) (j : Nat) (_hj : j < n * size) (u : Value) :
    (w.setCell ⟨g, j, none⟩ u).ownsRow base e size (.slice (some ⟨g, 0, none⟩) n c) n (xs.set j u) := by
  obtain ⟨h1, ⟨hv, h2⟩ | ⟨g', c', cs, hv, hb, hc, hn, hm, hs, hx⟩⟩ := h
  · cases hv
  · cases hv
    refine ⟨by simpa using h1, .inr ⟨g, c, cs.setIfInBounds j u, rfl, hb, set_block hc _, hn, hm, by simpa using hs, ?_⟩⟩
    rw [← hx, Array.toList_setIfInBounds, List.take_set]

theorem owns_set_pair {w : World} {base : Nat} {e : TypeId} {g c : Nat} {R : List Rng} (h : w.ownsRow base e 2 (.slice (some ⟨g, 0, none⟩) R.length c) R.length (pairCells R)) {i : Nat} (hi : i < R.length) (r : Rng) :
    ((w.setCell ⟨g, i * 2, none⟩ (iv r.1)).setCell ⟨g, i * 2 + 1, none⟩ (iv r.2)).ownsRow base e 2 (.slice (some ⟨g, 0, none⟩) R.length c) R.length (pairCells (R.set i r)) := by
  rw [pairCells_set R i r hi]
  exact owns_set (owns_set h (i * 2) (by omega) (iv r.1)) (i * 2 + 1) (by omega) (iv r.2)

/-- The cells of an own pair. -/
theorem owns_pair {w : World} {base : Nat} {e : TypeId} {v : Value} {R : List Rng} (h : w.ownsRow base e 2 v R.length (pairCells R)) {i : Nat} (hi : i < R.length) :
    ∃ g c, v = .slice (some ⟨g, 0, none⟩) R.length c ∧ base ≤ g ∧ g < w.heap.size ∧ (w.cell? ⟨g, i * 2, none⟩ = some (iv R[i].1) ∧ w.cell? ⟨g, i * 2 + 1, none⟩ = some (iv R[i].2)) ∧ ∀ j, w.frozen? ⟨g, j, none⟩ = false := by
  obtain ⟨h1, ⟨hv, h2⟩ | ⟨g, c, cs, hv, hb, hc, hn, hm, hs, hx⟩⟩ := h
  · omega
  · have k0 : (pairCells R)[i * 2 + 0]? = some (iv R[i].1) := by unfold pairCells; rw [flat_get _ 2 (fun _ => rfl) R i 0 hi (by omega)]; rfl
    have k1 : (pairCells R)[i * 2 + 1]? = some (iv R[i].2) := by unfold pairCells; rw [flat_get _ 2 (fun _ => rfl) R i 1 hi (by omega)]; rfl
    refine ⟨g, c, hv, hb, (Array.getElem?_eq_some_iff.1 hc).1, ⟨?_, ?_⟩, fun j => frozen_of_block hc j⟩
    · rw [← hx, List.getElem?_take] at k0
      split at k0
      · simp only [World.cell?, hc]; simpa using k0
      · cases k0
    · rw [← hx, List.getElem?_take] at k1
      split at k1
      · simp only [World.cell?, hc]; simpa using k1
      · cases k1

theorem wpList_append_at {P : Program} {w : World} {ops : Array Oper} {rest : List Oper} {o : Oper} {a : Act} {Q : Exit → Act → World → Prop} (hg : o.guard = none) (s x : Operand) {t e : TypeId} {z : Value} {size bytes : Nat} (hT : SliceT P t e z size bytes)
    (hop : o.op = Op.call { callee := Callee.builtin Builtin.append, args := #[s, x], argTypes := #[t, t] }) (base : Nat) (v : Value) (n : Nat) (xs : List Value) (hs : a.eval s = v) (hown : w.ownsRow base e size v n xs)
    (src : Value) (k : Nat) (news : List Value) (hx : a.eval x = src) (hsrc : SlAt size w src k news) (h1 : ∀ u ∈ news, u.oneCell' = true) (hb : (n + k) * bytes ≤ 140737488355328) (h63 : n + k ≤ 9223372036854775807) (hbase : base ≤ w.heap.size)
    (hK : ∀ v' w', w'.ownsRow base e size v' (n + k) (xs ++ news) → w.grownBy w' v.ownBlock → (v'.ownBlock = v.ownBlock ∨ v'.ownBlock = some w.heap.size) → wpList P ops Q rest (a.put o.dst v') w') : wpList P ops Q (o :: rest) a w := by
  refine wpList_plain hg fun K hK' => ?_
  exact does_wp (does_append_at (P := P) hT hop hs hown hx hsrc h1 hb h63 hbase) fun v' w' ⟨h2, h3, h4⟩ => hK' _ _ (hK v' w' h2 h3 h4)

/-- What bounds leaves behind. -/
def BdPost (R : List Rng) (mb : Nat) (cool : Int) (w : World) (e : Ending) (w' : World) : Prop :=
  ∃ v, e = .returned v ∧ w'.ownsRow w.heap.size 36 2 v R.length (pairCells R) ∧ Cache w' mb cool ∧ Ext [mb] w w'

set_option maxHeartbeats 4000000 in
theorem bounds_any (h : HeapD) (hS : Sound h) (a b c tv : Value) (turns : List Int) (wb mb : Nat) (w : World) (hw : WorkAt w wb mb h a b c) (h1 : PairsAt w a h.wet) (h2 : IntsAt w b h.turns) (h3 : TriplesAt w c h.readings) (h4 : IntsAt w tv turns) :
    Calls Try.prog 66 #[.pointer (some ⟨wb, 0, none⟩), tv] w (BdPost (boundsL (h.last + 1).toNat (everyL h turns)) mb h.cool w) := by
  have HEV := Lib.hid (every_any h hS a b c tv turns wb mb w hw h1 h2 h3 h4)
  obtain ⟨oa, ca, rfl⟩ := h1.open
  obtain ⟨ob, cb, rfl⟩ := h2.open
  obtain ⟨oc, cc, rfl⟩ := h3.open
  obtain ⟨ot, ct, rfl⟩ := h4.open
  have HW := Lib.hid hw
  have HSS := Lib.hid hS
  have hl0 := hS.last0
  have hl9 := hS.last9
  obtain ⟨n, hn⟩ : ∃ n : Nat, h.last + 1 = n := ⟨(h.last + 1).toNat, by omega⟩
  have hten := everyL_ten (h := h) (turns := turns)
  have hlen : (everyL h turns).length ≤ 2000 := Nat.le_trans (everyL_len h turns) (truthsL_len hS [])
  rw [hn, Int.toNat_natCast]
  generalize everyL h turns = ls at *
  clear hw h1 h2 h3 h4 hS
  go_enter Try.func66, Try.ntmps66
  go_wp2_with fail
  refine HEV.out.mono ?_
  rintro e w1 ⟨v, rfl, hown, hcc, hE⟩
  obtain ⟨vo, vc, rfl⟩ := owns_slice hown
  have HO := Lib.hid hown
  have HC := Lib.hid hcc
  have HE := Lib.hid hE
  clear hown hcc hE
  go_wp2_with fail
  have hws := HW.out
  go_loopw [4, 12] (fun o u wr => ∃ k : Nat, k ≤ ls.length ∧ u = .int .i64 k ∧ ∃ oo oc2, o = .slice oo (boundsTo n ls k).length oc2 ∧ wr.ownsRow w1.heap.size 36 2 (.slice oo (boundsTo n ls k).length oc2) (boundsTo n ls k).length (pairCells (boundsTo n ls k)) ∧ Below w1.heap.size w1 wr)
    (fun _ u _ => ls.length - (intOf u).toNat)
  case atStart => exact ⟨0, Nat.zero_le _, rfl, none, 0, rfl, ⟨rfl, .inl ⟨rfl, rfl⟩⟩, Below.refl _ _⟩
  case round =>
    obtain ⟨k, hk, rfl, oo, oc2, rfl, how, hB⟩ := hrel
    by_cases hlt : k < ls.length
    · have hls10 := hten ls[k] (List.getElem_mem hlt)
      obtain ⟨g0, c0, hv0, hg0, hr0⟩ := owns_at HO.out hten hlt
      have hvo : vo = some ⟨g0, 0, none⟩ := by simp at hv0; exact hv0.1
      subst hvo
      have hr1 : wr.rangeAt g0 (k * 10) (intCells ls[k]) := fun j u hj => (hB.cell (p := ⟨g0, k * 10 + j, none⟩) hg0).trans (hr0 j u hj)
      have hlsd : ls.getD k [] = ls[k] := by simp [List.getD, hlt]
      generalize ls[k] = ys at *
      obtain ⟨W2, hst, hblk, hE2⟩ := store_block Try.prog ys (heap_new0 wr (.cells #[iv 0, iv 0, iv 0, iv 0, iv 0, iv 0, iv 0, iv 0, iv 0, iv 0] 127)) (by rw [hls10]; rfl)
      have hyl : (intCells ys).length = 10 := by simp [intCells, hls10]
      have hB2 : Below wr.heap.size wr W2 := (Ext.below (ext_newer ((Ext.of_below (Below.refl _ _)).alloc _) hE2 (Nat.le_refl _)))
      have hwrk : WorkAt W2 wb mb h (.slice oa h.wet.length ca) (.slice ob h.turns.length cb) (.slice oc h.readings.length cc) := (HW.out.ext HE.out HC.out).below (bgo hB hB2) (Nat.le_refl _)
      have c2 := hwrk.cell
      have c3 := hwrk.lt
      have hltI : (k : Int) < ls.length := by omega
      have hkn : ((k : Int)).toNat = k := by omega
      have HB := Lib.hid hB
      have HB2 := Lib.hid hB2
      have HK := Lib.hid hblk
      have HOW := Lib.hid how
      clear hws hB hB2 hblk how hwrk hE2 hr0
      go_wp2_with (refine wpList_load_mid rfl 127 _ rfl g0 (k * 10) rfl (intCells ys) _ hr1 Try.underlying127 rfl (by rw [hyl]; kernel_rfl) ?_)
      refine (hours_n h _ _ _ n _ hl0 hl9 hn).mono ?_
      rintro e W3 ⟨rfl, hb⟩
      have HB3 := Lib.hid (bgo HB2.out hb)
      have hk3 : W3.heap[wr.heap.size]? = some (.cells (intCells ys).toArray 127 (0, 0)) := (hb.block _ (Array.getElem?_eq_some_iff.1 HK.out).1).trans HK.out
      have HK3 := Lib.hid hk3
      clear hb hk3 c2 c3 hst hr1
      go_wp2_with fail
      have hn10 : n ≤ 10 := by omega
      have hR : k ≠ 0 → (boundsTo n ls k).length = n := boundsTo_len n ls k
      have hR0 : k = 0 → boundsTo n ls k = [] := fun e => by subst e; rfl
      have H3 := Lib.hid (show _ ∧ _ ∧ _ ∧ _ from And.intro (owns_ext (Ms := []) HOW.out (Ext.of_below HB3.out) (by simp)) (And.intro (fun g (hg : (Value.slice oo (boundsTo n ls k).length oc2).ownBlock = some g) => (show g ≠ wr.heap.size from by have := (owns_ge HOW.out g hg).2; omega)) (And.intro (bgo HB.out HB3.out) HK3.out)))
      clear HB HB2 HB3 HOW HK HK3
      generalize wr.heap.size = b6 at *
      go_loopw [4, 22] (fun o u wq => ∃ i : Nat, i ≤ n ∧ u = .int .i64 i ∧ ∃ oo oc2, o = .slice oo (partB n k (boundsTo n ls k) ys i).length oc2 ∧ wq.ownsRow w1.heap.size 36 2 (.slice oo (partB n k (boundsTo n ls k) ys i).length oc2) (partB n k (boundsTo n ls k) ys i).length (pairCells (partB n k (boundsTo n ls k) ys i)) ∧
          (∀ g, (Value.slice oo (partB n k (boundsTo n ls k) ys i).length oc2).ownBlock = some g → g ≠ b6) ∧ Below w1.heap.size w1 wq ∧ wq.heap[b6]? = some (.cells (intCells ys).toArray 127 (0, 0)))
        (fun _ u _ => n - (intOf u).toNat)
      case atStart =>
        refine ⟨0, Nat.zero_le _, rfl, ?_⟩
        rw [partB_zero hR hR0]
        exact ⟨oo, oc2, rfl, H3.out⟩
      case round =>
        obtain ⟨i, hi, rfl, oo3, oc3, rfl, how, hne, hB, hblk⟩ := hrel
        by_cases hin : i < n
        · have hi10 : i < ys.length := by omega
          have hcell := cell_of_ints hblk hi10
          have hgx : ys.getD i 0 = ys[i] := by simp [List.getD, hi10]
          have hkb := (Array.getElem?_eq_some_iff.1 hblk).1
          have hiI : (i : Int) < 10 := by omega
          have hinI : (i : Int) < n := by omega
          have hiN : ((i : Int)).toNat = i := by omega
          generalize hxx : ys[i] = x at hcell hgx
          have HX := Lib.hid hgx
          have HOI := Lib.hid how
          have HNE := Lib.hid hne
          have HBQ := Lib.hid hB
          have HKQ := Lib.hid hblk
          clear hgx how hne hB hblk hxx
          rcases Nat.eq_zero_or_pos k with hk0 | hk0
          · have hk0b : ((k : Int) == 0) = true := by simpa using hk0
            have hln0 : (partB n k (boundsTo n ls k) ys i).length = i := by rw [hk0]; exact partB_len0 _ _ _ _
            have happ : partB n k (boundsTo n ls k) ys i ++ [(x, x)] = partB n k (boundsTo n ls k) ys (i + 1) := by rw [hk0, ← HX.out]; exact partB_app
            have hlen1 : (partB n k (boundsTo n ls k) ys (i + 1)).length = i + 1 := by rw [hk0]; exact partB_len0 _ _ _ _
            have HAP := Lib.hid happ
            have HK0 := Lib.hid hk0
            have HLN := Lib.hid (And.intro hln0 hlen1)
            clear happ hk0 hln0 hlen1
            go_wp2_with fail
            clear hk0b
            refine wp_region_rg 9 [] none [(8, Spec.slice wr.heap.size #[iv x, iv x] 36 1)] (by kernel_rfl) (by kernel_rfl) ?_
            simp only [List.take_succ_cons, List.take_zero, List.drop_succ_cons, List.drop_zero]
            repeat (refine tree_det (by rfl) _ (by rfl) (fun W hW => by go_simp; (try simp (disch := omega) only [IntWalk.i64_in, Int.tdiv_eq_ediv_of_nonneg]); try rfl) ?_; simp only [Act.put, List.setIfInBounds_toArray, List.set_cons_succ, List.set_cons_zero])
            refine tree_slice wr.heap.size _ _ _ (by rfl) (Nat.le_refl _) (by rfl) (by simp) (by simp) (fun W hW => by go_simp; try rfl) (fun b8 => ?_)
            simp only [Act.put, List.setIfInBounds_toArray, List.set_cons_succ, List.set_cons_zero]
            intro W5 hE5 hF5
            have hE5' : Ext [] wr W5 := hE5
            obtain ⟨b8', hb8, hbB8, hblk8⟩ := hF5 _ (List.Mem.head _)
            cases hb8
            obtain ⟨hc, hf⟩ := bcell hE5'.below
            have hz5 := hE5'.size
            have HE5 := Lib.hid hE5'
            have HBK := Lib.hid hblk8
            have hown5 := owns_ext (Ms := []) HOI.out hE5' (by simp)
            have HOI5 := Lib.hid hown5
            have hw1r := HBQ.out.size
            clear hE5 hF5 hE5' hblk8 hown5
            go_wp2_with (at_builtin; go_loud (refine wpList_append_at rfl _ _ tPairs rfl w1.heap.size (.slice oo3 (partB n k (boundsTo n ls k) ys i).length oc3) (partB n k (boundsTo n ls k) ys i).length (pairCells (partB n k (boundsTo n ls k) ys i)) rfl HOI5.out (.slice (some ⟨b8, 0, none⟩) 1 1) 1 (pairCells [(x, x)]) rfl (SlAt.of_block 2 1 HBK.out rfl (by decide)) (one_pairs _) (by have := HLN.out.1; omega) (by have := HLN.out.1; omega) (by omega) ?_))
            intro v' W6 hown6 hgr6 hnew6
            have hown6' : W6.ownsRow w1.heap.size 36 2 v' (partB n k (boundsTo n ls k) ys (i + 1)).length (pairCells (partB n k (boundsTo n ls k) ys (i + 1))) := by
              rw [HLN.out.2, ← HAP.out]
              have e1 : pairCells (partB n k (boundsTo n ls k) ys i ++ [(x, x)]) = pairCells (partB n k (boundsTo n ls k) ys i) ++ pairCells [(x, x)] := by simp [pairCells]
              rw [e1]
              have hl := HLN.out.1
              rw [hl] at hown6
              exact hown6
            obtain ⟨o6, c6, rfl⟩ := owns_slice hown6'
            have HO9 := Lib.hid hown6'
            have HN9 : Hid (∀ g, (Value.slice o6 (partB n k (boundsTo n ls k) ys (i + 1)).length c6).ownBlock = some g → g ≠ b6) := Lib.hid (fun g hg => by
              rcases hnew6 with e | e
              · rw [hg] at e; exact HNE.out g e.symm
              · rw [hg] at e; injection e with e; omega)
            have hb6n : (Value.slice oo3 (partB n k (boundsTo n ls k) ys i).length oc3).ownBlock ≠ some b6 := fun e => HNE.out b6 e rfl
            have hE6 : ∀ b, b < wr.heap.size → (Value.slice oo3 (partB n k (boundsTo n ls k) ys i).length oc3).ownBlock ≠ some b → W6.heap[b]? = wr.heap[b]? := fun b hb hn => (hgr6.block b (by omega) (fun e => hn e.symm)).trans (HE5.out.block b hb (by simp))
            have hs6 := hgr6.size
            have hk6 : W6.heap[b6]? = some (.cells (intCells ys).toArray 127 (0, 0)) := (hE6 b6 hkb hb6n).trans HKQ.out
            have hB6 : Below w1.heap.size w1 W6 := ⟨hgr6.os.trans (HE5.out.os.trans HBQ.out.os), hgr6.tape.trans (HE5.out.tape.trans HBQ.out.tape), hgr6.output.trans (HE5.out.output.trans HBQ.out.output), by omega,
              fun b hb => (hE6 b (by omega) (fun e => by have := (owns_ge HOI.out b e).1; omega)).trans (HBQ.out.block b hb)⟩
            have HB9 := Lib.hid hB6
            have HK9 := Lib.hid hk6
            have hcell6 : W6.cell? ⟨b6, i, none⟩ = some (.int .i64 x) := by
              have := cell_of_ints hk6 hi10
              rw [this]
              have hx := HX.out
              simp only [List.getD, List.getElem?_eq_getElem hi10, Option.getD_some] at hx
              rw [hx]
            have hkb6 := (Array.getElem?_eq_some_iff.1 hk6).1
            clear hown6 hgr6 hnew6 hown6' hb6n hE6 hk6 hB6 hc hf hcell
            go_wp2_with fail
            have hlen1 := HLN.out.2
            have heq0 : (partB n k (boundsTo n ls k) ys (i + 1)).set i (wid ((partB n k (boundsTo n ls k) ys (i + 1)).getD i (0, 0)) (ys.getD i 0)) = partB n k (boundsTo n ls k) ys (i + 1) := by rw [HK0.out]; exact partB_set0
            have hiL : i < ((partB n k (boundsTo n ls k) ys (i + 1))).length := by first | omega | (rw [partB_len _ _ _ _ _ hk0]; omega) | (simp only [partB_len0, List.length_append, List.length_cons, List.length_nil, boundsTo_len, partB_len, ne_eq, hk0, not_false_eq_true]; omega)
            (try clear hlen1)
            obtain ⟨g9, c9, hv9, hg9, hlt9, ⟨p0, p1⟩, hfz⟩ := owns_pair HO9.out hiL
            simp only [Value.slice.injEq, true_and] at hv9
            obtain ⟨rfl, rfl⟩ := hv9
            have hgd : ((partB n k (boundsTo n ls k) ys (i + 1))).getD i (0, 0) = ((partB n k (boundsTo n ls k) ys (i + 1)))[i] := by simp [List.getD, hiL]
            have hne9 : ¬ g9 = b6 := HN9.out g9 rfl
            have hiL' : (i : Int) < (((partB n k (boundsTo n ls k) ys (i + 1))).length : Int) := by omega
            generalize hri : ((partB n k (boundsTo n ls k) ys (i + 1)))[i] = r9 at p0 p1 hgd
            have HGD := Lib.hid hgd
            have hf0 := hfz (i * 2)
            have hf1 := hfz (i * 2 + 1)
            clear hfz hri hgd
            refine wp_region_rg 11 [] none [(9, Spec.val (rv (wid r9 x)))] (by kernel_rfl) (by kernel_rfl) ?_
            simp only [List.take_succ_cons, List.take_zero, List.drop_succ_cons, List.drop_zero]
            repeat (refine tree_det (by rfl) _ (by rfl) (fun W hW => by go_simp; (try simp (disch := omega) only [IntWalk.i64_in, Int.tdiv_eq_ediv_of_nonneg]); try rfl) ?_; simp only [Act.put, List.setIfInBounds_toArray, List.set_cons_succ, List.set_cons_zero])
            refine tree_val _ (by rfl) (by rfl) 105 _ (fun W hW => by go_simp; (try simp (disch := omega) only [IntWalk.i64_in]); try rfl) (fun W hE hF => by exact wider_any r9 x W) ?_
            simp only [Act.put, List.setIfInBounds_toArray, List.set_cons_succ, List.set_cons_zero]
            repeat (refine tree_det (by rfl) _ (by rfl) (fun W hW => by go_simp; (try simp (disch := omega) only [IntWalk.i64_in, Int.tdiv_eq_ediv_of_nonneg]); try rfl) ?_; simp only [Act.put, List.setIfInBounds_toArray, List.set_cons_succ, List.set_cons_zero])
            intro W8 hE8 hF8
            have hE8' : Ext [] W6 W8 := hE8
            obtain ⟨hc8, hf8⟩ := bcell hE8'.below
            have hz8 := hE8'.size
            have HE8 := Lib.hid hE8'
            have hlt8 : g9 < W8.heap.size := by omega
            clear hE8 hF8 hE8'
            go_wp2_with fail
            go_roundw
            case rel =>
              have heq : partB n k (boundsTo n ls k) ys (i + 1) = ((partB n k (boundsTo n ls k) ys (i + 1))).set i (wid r9 x) := by
                rw [← HX.out, ← HGD.out]
                exact (heq0).symm
              refine ⟨i + 1, by omega, by go_num, ?_⟩
              rw [heq, List.length_set]
              have hset := owns_set_pair (owns_ext (Ms := []) HO9.out HE8.out (by simp)) hiL (wid r9 x)
              refine ⟨_, _, rfl, hset, fun g hg => by cases hg; exact hne9, bgoSet (bgoSet (bgo HB9.out HE8.out.below) hg9 _) hg9 _, ?_⟩
              exact (Below.heap_setCell _ _ _ _ (by show b6 ≠ g9; omega)).trans ((Below.heap_setCell _ _ _ _ (by show b6 ≠ g9; omega)).trans ((HE8.out.block b6 (Array.getElem?_eq_some_iff.1 HK9.out).1 (by simp)).trans HK9.out))
            case measure => simp [intOf]; omega
          · have hk0I : ¬ ((k : Int) = 0) := by omega
            have hk0b : ((k : Int) == 0) = false := by simp; omega
            have hk0' : k ≠ 0 := by omega
            replace hk0 : k ≠ 0 := by omega
            go_wp2_with fail
            have HO9 := HOI
            have HN9 := HNE
            have HB9 := HBQ
            have HK9 := HKQ
            have hiL : i < ((partB n k (boundsTo n ls k) ys i)).length := by first | omega | (rw [partB_len _ _ _ _ _ hk0]; omega) | (simp only [partB_len0, List.length_append, List.length_cons, List.length_nil, boundsTo_len, partB_len, ne_eq, hk0, not_false_eq_true]; omega)
            (try clear hlen1)
            obtain ⟨g9, c9, hv9, hg9, hlt9, ⟨p0, p1⟩, hfz⟩ := owns_pair HO9.out hiL
            simp only [Value.slice.injEq, true_and] at hv9
            obtain ⟨rfl, rfl⟩ := hv9
            have hgd : ((partB n k (boundsTo n ls k) ys i)).getD i (0, 0) = ((partB n k (boundsTo n ls k) ys i))[i] := by simp [List.getD, hiL]
            have hne9 : ¬ g9 = b6 := HN9.out g9 rfl
            have hiL' : (i : Int) < (((partB n k (boundsTo n ls k) ys i)).length : Int) := by omega
            generalize hri : ((partB n k (boundsTo n ls k) ys i))[i] = r9 at p0 p1 hgd
            have HGD := Lib.hid hgd
            have hf0 := hfz (i * 2)
            have hf1 := hfz (i * 2 + 1)
            clear hfz hri hgd
            refine wp_region_rg 11 [] none [(9, Spec.val (rv (wid r9 x)))] (by kernel_rfl) (by kernel_rfl) ?_
            simp only [List.take_succ_cons, List.take_zero, List.drop_succ_cons, List.drop_zero]
            repeat (refine tree_det (by rfl) _ (by rfl) (fun W hW => by go_simp; (try simp (disch := omega) only [IntWalk.i64_in, Int.tdiv_eq_ediv_of_nonneg]); try rfl) ?_; simp only [Act.put, List.setIfInBounds_toArray, List.set_cons_succ, List.set_cons_zero])
            refine tree_val _ (by rfl) (by rfl) 105 _ (fun W hW => by go_simp; (try simp (disch := omega) only [IntWalk.i64_in]); try rfl) (fun W hE hF => by exact wider_any r9 x W) ?_
            simp only [Act.put, List.setIfInBounds_toArray, List.set_cons_succ, List.set_cons_zero]
            repeat (refine tree_det (by rfl) _ (by rfl) (fun W hW => by go_simp; (try simp (disch := omega) only [IntWalk.i64_in, Int.tdiv_eq_ediv_of_nonneg]); try rfl) ?_; simp only [Act.put, List.setIfInBounds_toArray, List.set_cons_succ, List.set_cons_zero])
            intro W8 hE8 hF8
            have hE8' : Ext [] wr W8 := hE8
            obtain ⟨hc8, hf8⟩ := bcell hE8'.below
            have hz8 := hE8'.size
            have HE8 := Lib.hid hE8'
            have hlt8 : g9 < W8.heap.size := by omega
            clear hE8 hF8 hE8'
            go_wp2_with fail
            go_roundw
            case rel =>
              have heq : partB n k (boundsTo n ls k) ys (i + 1) = ((partB n k (boundsTo n ls k) ys i)).set i (wid r9 x) := by
                rw [← HX.out, ← HGD.out]
                exact (partB_set hk0 hin).symm
              refine ⟨i + 1, by omega, by go_num, ?_⟩
              rw [heq, List.length_set]
              have hset := owns_set_pair (owns_ext (Ms := []) HO9.out HE8.out (by simp)) hiL (wid r9 x)
              refine ⟨_, _, rfl, hset, fun g hg => by cases hg; exact hne9, bgoSet (bgoSet (bgo HB9.out HE8.out.below) hg9 _) hg9 _, ?_⟩
              exact (Below.heap_setCell _ _ _ _ (by show b6 ≠ g9; omega)).trans ((Below.heap_setCell _ _ _ _ (by show b6 ≠ g9; omega)).trans ((HE8.out.block b6 (Array.getElem?_eq_some_iff.1 HK9.out).1 (by simp)).trans HK9.out))
            case measure => simp [intOf]; omega
        · have hin' : i = n := by omega
          subst hin'
          have hsucc : boundsTo i ls (k + 1) = partB i k (boundsTo i ls k) ys i := by
            show partB i k (boundsTo i ls k) (ls.getD k []) i = _
            rw [hlsd]
          have HS := Lib.hid (And.intro hsucc (And.intro how hB))
          clear hsucc how hB hblk hne
          go_wp2_with fail
          go_roundw
          case rel =>
            refine ⟨k + 1, by omega, by go_num, ?_⟩
            rw [HS.out.1]
            exact ⟨_, _, rfl, HS.out.2.1, HS.out.2.2⟩
          case measure => simp [intOf]; omega
    · have hkl : k = ls.length := by omega
      subst hkl
      have HF := Lib.hid (And.intro how hB)
      clear how hB
      go_wp2_with fail
      go_returns
      exact ⟨_, by simp, owns_base HF.out.1 (by have := HE.out.size; omega), HC.out.kept (HF.out.2.block mb HC.out.lt), HE.out.bel HF.out.2⟩

end Go.Proofs.Ytoibfafmnaooaaa

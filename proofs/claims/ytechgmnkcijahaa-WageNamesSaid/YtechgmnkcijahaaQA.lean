/-
  Contracts of package wage, first part: small functions.
  Contracts of package wage, second part: the dues; the iterator of the field's truths.
  Contracts of package wage, third part: a ledger at work.
-/
import Derived.WalkKit
import Derived.WalkLawsBesides
import Derived.WalkSpells
import Derived.Outline
import Derived.Handy
import Derived.KernelRfl
import Derived.Lib.Hide
import Derived.Test.YtechgmnkcijahaaPH
import Derived.Test.YtechgmnkcijahaaVA
namespace Go.Proofs.Ytechgmnkcijahaa
open Go.RowKit Go.RG Go.SL Go.Shelf Cou Go.TB
set_option maxHeartbeats 400000
set_option maxRecDepth 10000

abbrev xv (t : Rdg) : Value := .agg #[.int .i64 t.1, .int .i64 t.2.1, .int .i64 t.2.2]
/-- A ledger by value; its cells. -/
abbrev lcells (l : LedgerD) (tv nv : Value) : Array Value := #[iv l.field.rows, iv l.field.weeders, iv l.field.left.1, iv l.field.left.2, tv, iv l.rate, iv l.box.1, iv l.box.2, nv]
abbrev lv (l : LedgerD) (tv nv : Value) : Value := .agg (lcells l tv nv)

def amountsB (r : Rng) : Bool := decide (r.1 ≤ r.2) && (inB r.1 0 2000 && inB r.2 0 2000)
def noteB (l : LedgerD) (n : Rdg) : Bool := inB n.1 0 (l.field.weeders - 1) && amountsB n.2

theorem gwithin_any (n l h : Int) (w : World) : Calls Try.prog 35 #[iv n, iv l, iv h] w (PV (.bool (inB n l h)) w) := by
  by_cases h1 : l ≤ n
  all_goals
    go_enter Try.func35, Try.ntmps35
    go_wp2
    go_returns
    exact ⟨by simp [inB]; omega, Below.refl _ _⟩

theorem money_any (n : Int) (w : World) : Calls Try.prog 23 #[iv n] w (PV (.bool (inB n 0 2000)) w) := by
  go_enter Try.func23, Try.ntmps23
  go_wp2_with fail
  refine (gwithin_any _ _ _ _).mono ?_
  rintro e w' ⟨rfl, hb⟩
  go_wp2_with fail
  go_returns
  exact ⟨by simp, hb⟩

theorem amounts_any (r : Rng) (w : World) : Calls Try.prog 48 #[rv r] w (PV (.bool (amountsB r)) w) := by
  obtain ⟨p, q⟩ := r
  by_cases h0 : p ≤ q
  · obtain ⟨x, hx⟩ : ∃ x, inB p 0 2000 = x := ⟨_, rfl⟩
    have H1 := Lib.hid (fun w => hx ▸ money_any p w)
    have HX := Lib.hid hx
    clear hx
    cases x
    · have hF : amountsB (p, q) = false := by unfold amountsB; simp only [HX.out]; simp
      rw [hF]
      clear hF
      go_enter Try.func48, Try.ntmps48
      go_wp2_with fail
      refine (H1.out _).mono ?_
      rintro e w' ⟨rfl, hb⟩
      go_wp2_with fail
      go_returns
      exact ⟨by simp, (by repeat (first | exact Below.refl _ _ | assumption | refine bgo ?_ (by assumption) | refine bgoAlloc ?_ _ | refine bgoDrew ?_ | refine bgoSet ?_ (by simp; omega) _))⟩
    · have hF : amountsB (p, q) = inB q 0 2000 := by unfold amountsB; simp only [HX.out]; simp [h0]
      rw [hF]
      clear hF
      go_enter Try.func48, Try.ntmps48
      go_wp2_with fail
      refine (H1.out _).mono ?_
      rintro e w' ⟨rfl, hb⟩
      obtain ⟨hc, hf⟩ := bcell hb
      have hz0 : w.heap.size < w'.heap.size := (by have := hb.size; (try simp only [World.size_alloc] at this); omega)
      go_wp2_with fail
      refine (money_any q _).mono ?_
      rintro e w2 ⟨rfl, hb2⟩
      go_wp2_with fail
      go_returns
      exact ⟨by simp, (by repeat (first | exact Below.refl _ _ | assumption | refine bgo ?_ (by assumption) | refine bgoAlloc ?_ _ | refine bgoDrew ?_ | refine bgoSet ?_ (by simp; omega) _))⟩
  · have hb0 : decide (p ≤ q) = false := by simpa using h0
    have hF : amountsB (p, q) = false := by unfold amountsB; simp [h0]
    rw [hF]
    clear hF
    go_enter Try.func48, Try.ntmps48
    go_wp2
    go_returns
    exact ⟨by simp, (by repeat (first | exact Below.refl _ _ | assumption | refine bgo ?_ (by assumption) | refine bgoAlloc ?_ _ | refine bgoDrew ?_ | refine bgoSet ?_ (by simp; omega) _))⟩

theorem note_any (l : LedgerD) (tv nv : Value) (n : Rdg) (w : World) (h0 : -1000 ≤ l.field.weeders) (h1 : l.field.weeders ≤ 1000) :
    Calls Try.prog 46 #[lv l tv nv, xv n] w (PV (.bool (noteB l n)) w) := by
  obtain ⟨x, hx⟩ : ∃ x, inB n.1 0 (l.field.weeders - 1) = x := ⟨_, rfl⟩
  have H1 := Lib.hid (fun w => hx ▸ gwithin_any n.1 0 (l.field.weeders - 1) w)
  have HX := Lib.hid hx
  clear hx
  cases x
  · have hF : noteB l n = false := by unfold noteB; rw [HX.out]; rfl
    rw [hF]
    clear hF
    go_enter Try.func46, Try.ntmps46
    go_wp2_with fail
    refine (H1.out _).mono ?_
    rintro e w' ⟨rfl, hb⟩
    go_wp2_with fail
    go_returns
    exact ⟨by simp, (by repeat (first | exact Below.refl _ _ | assumption | refine bgo ?_ (by assumption) | refine bgoAlloc ?_ _ | refine bgoDrew ?_ | refine bgoSet ?_ (by simp; omega) _))⟩
  · have hF : noteB l n = amountsB n.2 := by unfold noteB; rw [HX.out]; rfl
    rw [hF]
    clear hF
    go_enter Try.func46, Try.ntmps46
    go_wp2_with fail
    refine (H1.out _).mono ?_
    rintro e w' ⟨rfl, hb⟩
    obtain ⟨hc, hf⟩ := bcell hb
    have hz0 : w.heap.size < w'.heap.size := (by have := hb.size; (try simp only [World.size_alloc] at this); omega)
    have hz1 : w.heap.size + 1 < w'.heap.size := (by have := hb.size; (try simp only [World.size_alloc] at this); omega)
    go_wp2_with fail
    refine (amounts_any n.2 _).mono ?_
    rintro e w2 ⟨rfl, hb2⟩
    go_wp2_with fail
    go_returns
    exact ⟨by simp, (by repeat (first | exact Below.refl _ _ | assumption | refine bgo ?_ (by assumption) | refine bgoAlloc ?_ _ | refine bgoDrew ?_ | refine bgoSet ?_ (by simp; omega) _))⟩

theorem gminimum_two (a b : Int) (g c : Nat) (w : World) (h0 : w.cell? ⟨g, 0, none⟩ = some (iv a)) (h1 : w.cell? ⟨g, 1, none⟩ = some (iv b)) :
    Calls Try.prog 55 #[.slice (some ⟨g, 0, none⟩) 2 c] w (PV (iv (min a b)) w) := by
  have H := Lib.hid (min_two a b g c w h0 h1)
  go_enter Try.func55, Try.ntmps55
  go_wp2_with fail
  refine H.out.mono ?_
  rintro e w' ⟨rfl, hb⟩
  go_wp2_with fail
  go_returns
  exact ⟨by simp, hb⟩

theorem both_any (r x : Rng) (w : World) : Calls Try.prog 54 #[rv r, rv x] w (PV (rv (bothR r x)) w) := by
  go_enter Try.func54, Try.ntmps54
  go_wp2_with fail
  refine wp_region_rg 12 [] none [(9, Spec.slice (w.heap.size + 3) #[iv r.2, iv x.2] 3 2), (10, Spec.val (iv (min r.2 x.2)))] (by as_aux_lemma => kernel_rfl) (by as_aux_lemma => kernel_rfl) ?_
  simp only [List.take_succ_cons, List.take_zero, List.drop_succ_cons, List.drop_zero]
  repeat (refine tree_det (by rfl) _ (by rfl) (fun W hW => by go_simp; (try simp (disch := omega) only [IntWalk.i64_in, Int.tdiv_eq_ediv_of_nonneg]); try rfl) ?_; simp only [Act.put, List.setIfInBounds_toArray, List.set_cons_succ, List.set_cons_zero])
  refine tree_slice (w.heap.size + 3) _ _ _ (by rfl) (by simp) (by rfl) (by simp) (by simp) (fun W hW => by go_simp; try rfl) (fun b => ?_)
  simp only [Act.put, List.setIfInBounds_toArray, List.set_cons_succ, List.set_cons_zero]
  refine tree_val _ (by rfl) (by rfl) 55 _ (fun W hW => by go_simp; try rfl) (fun W hE hF => ?_) ?_
  · obtain ⟨c, hcb, hB, hc⟩ := hF _ (List.Mem.head _) (by kernel_rfl)
    cases hcb
    exact gminimum_two r.2 x.2 b 2 W (by simp [World.cell?, hc]) (by simp [World.cell?, hc])
  simp only [Act.put, List.setIfInBounds_toArray, List.set_cons_succ, List.set_cons_zero]
  repeat (refine tree_det (by rfl) _ (by rfl) (fun W hW => by go_simp; (try simp (disch := omega) only [IntWalk.i64_in, Int.tdiv_eq_ediv_of_nonneg]); try rfl) ?_; simp only [Act.put, List.setIfInBounds_toArray, List.set_cons_succ, List.set_cons_zero])
  intro W hE hF
  obtain ⟨hc, hf⟩ := bcell hE.below
  have hzE := hE.size
  (try simp only [World.size_alloc] at hzE)
  go_wp2
  all_goals
    (try simp only [Exit.inBlock, Exit.then])
    refine bodyPost_ret (v := rv (max r.1 x.1, min r.2 x.2)) (by simp [results, Try.results54, go_sem, hc]; try omega) rfl ?_
    exact ⟨rfl, (by repeat (first | exact Below.refl _ _ | assumption | refine bgo ?_ hE.below | refine bgo ?_ (by assumption) | refine bgoAlloc ?_ _ | refine bgoDrew ?_ | refine bgoSet ?_ (by simp; try omega) _))⟩

end Go.Proofs.Ytechgmnkcijahaa

namespace Go.Proofs.Ytechgmnkcijahaa
open Go.RowKit Go.RG Go.SL Go.Shelf Cou Go.TB
set_option maxHeartbeats 400000
set_option maxRecDepth 10000

theorem idxN (l : List Rdg) (v : Value) (fid : Nat) (fst caps : Array Value) (p : Nat → Bool) (I : Nat → World → Prop) (w : World) (eg : ∀ args w, (callFunc fid args).run Try.prog w = .ok (.enter fid args) w)
    (hsl : ∀ k W, I k W → TriplesAt W v l)
    (hcall : ∀ k (hk : k < l.length) W, (∀ j, j < k → p j = false) → I k W → Calls Try.prog fid (fst.push (xv l[k]) ++ caps) W (fun e W' => e = .returned (.bool (p k)) ∧ I (k + 1) W')) (h0 : I 0 w) :
    Calls Try.prog 82 #[v, .func (.func fid) fst caps] w (IdxPost l.length p I (fun k => iv k) (iv (-1))) := by
  have hlen := (hsl 0 w h0).len
  obtain ⟨o, c, rfl⟩ := (hsl 0 w h0).open
  have HC := Lib.hid hcall
  have HS := Lib.hid hsl
  clear hcall hsl
  go_enter Try.func82, Try.ntmps82
  go_wp2
  go_loopw [4, 5, 8] (fun _ _ i wr => ∃ k : Nat, k ≤ l.length ∧ i = .int .i64 k ∧ (∀ j, j < k → p j = false) ∧ I k wr) (fun _ _ i _ => l.length - (intOf i).toNat)
  case atStart => exact ⟨0, Nat.zero_le _, rfl, fun j hj => by omega, h0⟩
  case round =>
    obtain ⟨k, hk, rfl, hno, hI⟩ := hrel
    by_cases hlt : k < l.length
    · obtain ⟨b, off, rfl, hb, hc0, hc1, hc2⟩ := TriplesAt.cell (HS.out k wr hI) hlt
      have hC := HC.out k hlt wr hno hI
      have HN := Lib.hid hno
      clear hno
      go_wp2_with fail
      refine hC.mono ?_
      rintro e W1 ⟨rfl, hI1⟩
      have HI := Lib.hid hI1
      clear hI1 hI hC
      cases hp : p k
      · go_wp2_with fail
        go_roundw
        case rel => exact ⟨k + 1, by omega, by go_num, fun j hj => (by by_cases e : j = k; (subst e; exact hp); exact HN.out j (by omega)), HI.out⟩
        case measure => simp [intOf]; omega
      · go_wp2_with fail
        go_returns
        exact ⟨k, by omega, HN.out, .inl ⟨hlt, hp, by simp, HI.out⟩⟩
    · have hkl : k = l.length := by omega
      have HN := Lib.hid hno
      clear hno
      go_wp2_with fail
      go_returns
      exact ⟨k, by omega, HN.out, .inr ⟨hkl, by simp, by subst hkl; exact hI⟩⟩

theorem contN (l : List Rdg) (v : Value) (fid : Nat) (fst caps : Array Value) (p : Nat → Bool) (I : Nat → World → Prop) (w : World) (eg : ∀ args w, (callFunc fid args).run Try.prog w = .ok (.enter fid args) w)
    (hsl : ∀ k W, I k W → TriplesAt W v l)
    (hcall : ∀ k (hk : k < l.length) W, (∀ j, j < k → p j = false) → I k W → Calls Try.prog fid (fst.push (xv l[k]) ++ caps) W (fun e W' => e = .returned (.bool (p k)) ∧ I (k + 1) W')) (h0 : I 0 w) :
    Calls Try.prog 61 #[v, .func (.func fid) fst caps] w (IdxPost l.length p I (fun _ => .bool true) (.bool false)) := by
  have HI := Lib.hid (idxN l v fid fst caps p I w eg hsl hcall h0)
  have hlen := (hsl 0 w h0).len
  clear hsl hcall h0 eg
  go_enter Try.func61, Try.ntmps61
  go_wp2_with fail
  refine HI.out.mono ?_
  clear HI
  rintro e W' ⟨k, hk, hno, ⟨hlt, hp, rfl, hI⟩ | ⟨hkl, rfl, hI⟩⟩
  · have HN := Lib.hid (And.intro hno (And.intro hp hI))
    clear hno hp hI
    go_wp2_with fail
    go_returns
    exact ⟨k, hk, HN.out.1, .inl ⟨hlt, HN.out.2.1, by simp, HN.out.2.2⟩⟩
  · have HN := Lib.hid (And.intro hno (And.intro hkl hI))
    clear hno hkl hI
    go_wp2_with fail
    go_returns
    exact ⟨k, hk, HN.out.1, .inr ⟨HN.out.2.1, by simp, HN.out.2.1 ▸ HN.out.2.2⟩⟩

theorem all1N (x : Rdg) (bx fid : Nat) (fst caps : Array Value) (b : Bool) (W : World) (R : World → Prop) (eg : ∀ args w, (callFunc fid args).run Try.prog w = .ok (.enter fid args) w)
    (hbx : W.cell? ⟨bx, 0, none⟩ = some (.func (.func fid) fst caps))
    (hcall : Calls Try.prog fid (fst.push (xv x) ++ caps) (W.alloc (.cells #[iv x.1, iv x.2.1, iv x.2.2] 52)) (fun e W' => e = .returned (.bool b) ∧ R W')) :
    Calls Try.prog 62 #[xv x, .pointer (some ⟨bx, 0, none⟩)] W (fun e W' => e = .returned (.bool !b) ∧ R W') := by
  have hlt := World.block_lt_of_cell? W _ hbx
  have HC := Lib.hid hcall
  clear hcall
  go_enter Try.func62, Try.ntmps62
  go_wp2_with fail
  refine HC.out.mono ?_
  rintro e W' ⟨rfl, hR⟩
  have HR := Lib.hid hR
  clear hR
  go_wp2_with fail
  go_returns
  exact ⟨by simp, HR.out⟩

theorem allN (l : List Rdg) (v : Value) (fid : Nat) (fst caps : Array Value) (p : Nat → Bool) (I : Nat → World → Prop) (w : World) (eg : ∀ args w, (callFunc fid args).run Try.prog w = .ok (.enter fid args) w)
    (hsl : ∀ k W, I k W → TriplesAt W v l) (hal : ∀ k W o, I k W → I k (W.alloc o))
    (hcall : ∀ k (hk : k < l.length) W, (∀ j, j < k → p j = true) → I k W → Calls Try.prog fid (fst.push (xv l[k]) ++ caps) W (fun e W' => e = .returned (.bool (p k)) ∧ I (k + 1) W' ∧ FromOn w.heap.size W W')) (h0 : I 0 w) :
    Calls Try.prog 37 #[v, .func (.func fid) fst caps] w (IdxPost l.length (fun k => !p k) I (fun _ => .bool false) (.bool true)) := by
  have HI := Lib.hid (contN l v 62 #[] #[.pointer (some ⟨w.heap.size, 0, none⟩)] (fun k => !p k)
    (fun k W => I k W ∧ W.heap[w.heap.size]? = some (.cells #[.func (.func fid) fst caps] 87 (0, 0))) (w.alloc (.cells #[.func (.func fid) fst caps] 87))
    (enters_of Try.func62 (by kernel_rfl) rfl) (fun k W h => hsl k W h.1)
    (fun k hk W hno h => by
      have hlt : w.heap.size < W.heap.size := (Array.getElem?_eq_some_iff.1 h.2).1
      refine (all1N l[k] w.heap.size fid fst caps (p k) W (fun W' => I (k + 1) W' ∧ W'.heap[w.heap.size]? = some (.cells #[.func (.func fid) fst caps] 87 (0, 0))) eg (cell_of_block0 h.2) ?_)
      refine (hcall k hk _ (fun j hj => by simpa using hno j hj) (by first | exact hal _ _ _ h.1 | exact h.1)).mono ?_
      rintro e W' ⟨rfl, h1, h2⟩
      refine ⟨rfl, h1, (h2.block _ (Nat.le_refl _) (by first | exact hlt | (simp; omega))).trans (by first | exact h.2 | exact (Below.heap_alloc _ _ _ hlt).trans h.2)⟩)
    ⟨hal _ _ _ h0, heap_alloc_new w _⟩)
  have hlen := (hsl 0 w h0).len
  clear hsl hcall h0 eg hal
  go_enter Try.func37, Try.ntmps37
  go_wp2_with fail
  refine HI.out.mono ?_
  clear HI
  rintro e W' ⟨k, hk, hno, ⟨hlt, hp, rfl, hI, _⟩ | ⟨hkl, rfl, hI, _⟩⟩
  · have HN := Lib.hid (And.intro hno (And.intro hp hI))
    clear hno hp hI
    go_wp2_with fail
    go_returns
    exact ⟨k, hk, HN.out.1, .inl ⟨hlt, HN.out.2.1, by simp, HN.out.2.2⟩⟩
  · have HN := Lib.hid (And.intro hno (And.intro hkl hI))
    clear hno hkl hI
    go_wp2_with fail
    go_returns
    exact ⟨k, hk, HN.out.1, .inr ⟨HN.out.2.1, by simp, HN.out.2.1 ▸ HN.out.2.2⟩⟩

theorem allN_pure (l : List Rdg) (v : Value) (fid : Nat) (fst caps : Array Value) (q : Rdg → Bool) (w : World) (hv : TriplesAt w v l) (eg : ∀ args w, (callFunc fid args).run Try.prog w = .ok (.enter fid args) w)
    (hcall : ∀ x ∈ l, ∀ W, Below w.heap.size w W → Calls Try.prog fid (fst.push (xv x) ++ caps) W (PV (.bool (q x)) W)) :
    Calls Try.prog 37 #[v, .func (.func fid) fst caps] w (PV (.bool (l.all q)) w) := by
  refine (allN l v fid fst caps (fun k => q (l.getD k (0, 0, 0))) (fun _ W => Below w.heap.size w W) w eg (fun k W h => hv.below h (Nat.le_refl _)) (fun k W o h => bgoAlloc h o) (fun k hk W _ h => ?_) (Below.refl _ _)).mono ?_
  · refine (hcall l[k] (List.getElem_mem _) W h).mono ?_
    rintro e W' ⟨rfl, hb⟩
    exact ⟨by simp [hk], bgo h hb, FromOn.of_below hb⟩
  · intro e W' hpost
    obtain ⟨rfl, k, _, hI⟩ := hpost.all
    refine ⟨?_, hI⟩
    rw [all_of_any, range_all]

end Go.Proofs.Ytechgmnkcijahaa

namespace Go.Proofs.Ytechgmnkcijahaa
open Go.RowKit Go.RG Go.SL Go.Shelf Cou Go.TB
set_option maxHeartbeats 400000
set_option maxRecDepth 10000
attribute [local go_sem] Oper.semAt_some

theorem three_of {l : List Int} (h : l.length = 3) : ∃ a b c, l = [a, b, c] := by
  match l, h with
  | [a, b, c], _ => exact ⟨a, b, c, rfl⟩

theorem dues_any (l : LedgerD) (tv nv rvv : Value) (rows : List Int) (w : World) (hr : IntsAt w rvv rows) (h0 : 0 ≤ l.rate) (h1 : l.rate ≤ 50) (h7 : rows.length ≤ 7) (hb : ∀ x ∈ rows, x < 3) :
    Calls Try.prog 34 #[lv l tv nv, rvv] w (fun e w' => e = .returned (aggI (duesV l.rate rows)) ∧ Below w.heap.size w w' ∧ w.heap.size < w'.heap.size) := by
  obtain ⟨ro, rc, rfl⟩ := hr.open
  have HR := Lib.hid hr
  have HB := Lib.hid hb
  clear hr hb
  go_enter Try.func34, Try.ntmps34
  go_wp2_with fail
  go_loopw [9] (fun u wr => ∃ k : Nat, k ≤ rows.length ∧ u = .int .i64 k ∧ Below w.heap.size w wr ∧ wr.heap[w.heap.size]? = some (.cells (lcells l tv nv) 34 (0, 0)) ∧ wr.heap[w.heap.size + 1]? = some (.cells (intCells (duesV l.rate (rows.take k))).toArray 79 (0, 0))) (fun u _ => rows.length - (intOf u).toNat)
  case atStart =>
    refine ⟨0, Nat.zero_le _, rfl, (by repeat (first | exact Below.refl _ _ | assumption | refine bgo ?_ (by assumption) | refine bgoAlloc ?_ _ | refine bgoDrew ?_ | refine bgoSet ?_ (by simp; omega) _)), (Below.heap_alloc _ _ _ (by simp)).trans (heap_new0 _ _), ?_⟩
    rw [List.take_zero, duesV_nil]
    exact heap_new1 _ _ _
  case round =>
    obtain ⟨k, hk, rfl, hB, hk0, hk1⟩ := hrel
    obtain ⟨c0, f0, l0⟩ := cells_of_block hk0
    by_cases hlt : k < rows.length
    · have hiv := HR.out.below hB (Nat.le_refl _)
      obtain ⟨b, off, rfl, hb, hc0⟩ := IntsAt.cell hiv hlt
      have hx3 := HB.out _ (List.getElem_mem hlt)
      have hsu : rows.take (k + 1) = rows.take k ++ [rows[k]] := List.take_succ_eq_append_getElem hlt
      have hbd := duesV_bd h0 h1 (rows.take k) (by rw [List.length_take]; omega)
      generalize rows[k] = x at *
      have HSU := Lib.hid hsu
      have HK := Lib.hid (And.intro hB (And.intro hk0 hk1))
      have HBD := Lib.hid hbd
      clear hiv hsu hB hk0 hbd
      by_cases hx : 0 ≤ x
      · obtain ⟨n, rfl⟩ : ∃ n : Nat, x = n := ⟨x.toNat, by omega⟩
        have hn3 : n < 3 := by omega
        obtain ⟨d, hd⟩ : ∃ d, (duesV l.rate (rows.take k)).getD n 0 = d := ⟨_, rfl⟩
        have hdb := HBD.out n hn3
        rw [hd] at hdb
        have hcell := cell_of_ints hk1 (show n < (duesV l.rate (rows.take k)).length by rw [duesV_len]; omega)
        rw [show (duesV l.rate (rows.take k))[n]'(by rw [duesV_len]; omega) = d from by rw [← hd]; simp [List.getD, duesV_len, hn3]] at hcell
        have hfr := frozen_of_block hk1 n
        have hl1 := World.block_lt_of_cell? wr _ hcell
        have HD := Lib.hid hd
        clear hd hk1
        go_upto_region 5 with (fail)
        refine wp_region_rg 7 [] none [] (by as_aux_lemma => kernel_rfl) (by as_aux_lemma => kernel_rfl) ?_
        simp only [List.take_succ_cons, List.take_zero, List.drop_succ_cons, List.drop_zero]
        repeat (refine tree_det (by rfl) _ (by rfl) (fun W hW => by go_simp; (try simp (disch := omega) only [IntWalk.i64_in]); try rfl) ?_; simp only [Act.put, List.setIfInBounds_toArray, List.set_cons_succ, List.set_cons_zero])
        intro W hE hF
        obtain ⟨hc, hf⟩ := bcell hE.below
        have hzE := hE.size
        (try simp only [World.size_alloc] at hzE)
        have HE := Lib.hid hE
        clear hF hzE
        go_wp2_with fail
        go_roundw
        case rel =>
          refine ⟨k + 1, by omega, by go_num, bgoSet (bgo HK.out.1 HE.out.below) (by simp) _, (Below.heap_setCell _ _ _ _ (by show w.heap.size ≠ w.heap.size + 1; omega)).trans ((HE.out.block _ l0 (by simp)).trans HK.out.2.1), ?_⟩
          rw [HSU.out, ← duesV_some _ _ _ hn3, HD.out, ← set_ints]
          exact set_block ((HE.out.block _ hl1 (by simp)).trans HK.out.2.2) _
        case measure => simp [intOf]; omega
      · have hxb : decide (0 ≤ x) = false := by simpa using hx
        have HX := Lib.hid hx
        clear hk1
        go_wp2_with fail
        go_roundw
        case rel =>
          refine ⟨k + 1, by omega, by go_num, HK.out.1, HK.out.2.1, ?_⟩
          rw [HSU.out, duesV_none _ _ _ (by have := HX.out; omega)]
          exact HK.out.2.2
        case measure => simp [intOf]; omega
    · have hkl : k = rows.length := by omega
      subst hkl
      rw [List.take_length] at hk1
      obtain ⟨y0, y1, y2, hys⟩ := three_of (duesV_len l.rate rows)
      rw [hys] at hk1
      have hk1' : wr.heap[w.heap.size + 1]? = some (.cells #[iv y0, iv y1, iv y2] 79 (0, 0)) := hk1
      obtain ⟨c1, f1, l1⟩ := cells_of_block hk1'
      have HYS := Lib.hid hys
      have HB' := Lib.hid hB
      have hkF : (((wr.setCell ⟨w.heap.size + 1, 0, none⟩ (iv y0)).setCell ⟨w.heap.size + 1, 1, none⟩ (iv y1)).setCell ⟨w.heap.size + 1, 2, none⟩ (iv y2)).heap[w.heap.size + 1]? = some (.cells #[iv y0, iv y1, iv y2] 79 (0, 0)) := set_block (set_block (set_block hk1' _) _) _
      obtain ⟨cF, fF, lF⟩ := cells_of_block hkF
      clear hk0 hk1 hk1' hB hys hkF
      go_wp2_with fail
      (try rw [Exit.noGoto_ret])
      refine bodyPost_ret (v := .agg #[iv y0, iv y1, iv y2]) (by simp [results, Try.results34, go_sem, cF]) rfl ?_
      exact ⟨by rw [HYS.out]; rfl, bgoSet (bgoSet (bgoSet HB'.out (by simp) _) (by simp) _) (by simp) _, by simp [World.setCell]; omega⟩

/-! ### The iterator of the field's truths: the same list again and again -/
theorem proveTruth_all {f : FieldD} (hf : faultF f = 0) {x : List Int} (hx : x ∈ allF f) : proveTruthB f x = rightF f [] x := by
  have hS := soundF_of hf
  have h0 := hS.rows0
  obtain ⟨h1, h2⟩ := mem_allF.1 hx
  have hall : x.all (saysB f) = true := by
    rw [List.all_eq_true]
    intro n hn
    obtain ⟨i, hi, rfl⟩ := List.getElem_of_mem hn
    have := h2 i (by omega)
    rw [show x.getD i 0 = x[i] from by simp [List.getD, hi]] at this
    simp only [saysB, inB, Bool.or_eq_true, beq_iff_eq, Bool.and_eq_true, decide_eq_true_eq]
    omega
  unfold proveTruthB
  rw [hf, hall, decide_eq_true (show (x.length : Int) = f.rows by omega)]
  simp

/-- What choose works with. -/
structure ChR (W : World) (n bl bo by_ bc ob l : Nat) (o : List Int) : Prop where
  y : W.heap[by_]? = some (.cells #[.func (.yield l) #[] #[]] 73 (0, 0))
  out : W.heap[bo]? = some (.cells #[.slice (some ⟨ob, 0, none⟩) n n] 36 (0, 0))
  ch : W.heap[bc]? = some (.cells #[.func (.func 91) #[] #[.pointer (some ⟨bo, 0, none⟩), .pointer (some ⟨bl, 0, none⟩), .pointer (some ⟨by_, 0, none⟩), .pointer (some ⟨bc, 0, none⟩)]] 67 (0, 0))
  cells : W.heap[ob]? = some (.cells (intCells o).toArray 3 (0, 0))

theorem ChR.kept {W W' : World} {n bl bo by_ bc ob l : Nat} {o : List Int} (h : ChR W n bl bo by_ bc ob l o) (hk : ∀ m ∈ [ob, by_, bo, bc], m < W.heap.size → W'.heap[m]? = W.heap[m]?) : ChR W' n bl bo by_ bc ob l o :=
  ⟨(hk _ (by simp) (Array.getElem?_eq_some_iff.1 h.y).1).trans h.y, (hk _ (by simp) (Array.getElem?_eq_some_iff.1 h.out).1).trans h.out, (hk _ (by simp) (Array.getElem?_eq_some_iff.1 h.ch).1).trans h.ch, (hk _ (by simp) (Array.getElem?_eq_some_iff.1 h.cells).1).trans h.cells⟩
theorem ChR.below {W W' : World} {n bl bo by_ bc ob l : Nat} {o : List Int} (h : ChR W n bl bo by_ bc ob l o) (hb : Below W.heap.size W W') : ChR W' n bl bo by_ bc ob l o := h.kept fun m _ hm => hb.block m hm
theorem ChR.set {W : World} {n bl bo by_ bc ob l : Nat} {o : List Int} (h : ChR W n bl bo by_ bc ob l o) (hd1 : by_ ≠ ob) (hd2 : bo ≠ ob) (hd3 : bc ≠ ob) (i : Nat) (x : Int) : ChR (W.setCell ⟨ob, i, none⟩ (iv x)) n bl bo by_ bc ob l (o.set i x) :=
  ⟨(Below.heap_setCell _ _ _ _ hd1).trans h.y, (Below.heap_setCell _ _ _ _ hd2).trans h.out, (Below.heap_setCell _ _ _ _ hd3).trans h.ch, by rw [← set_ints]; exact set_block h.cells _⟩

/-- A list is handed over as the slice of block ob. -/
def RowE (Ms : List Nat) (x : List Int) (v : Value) (W : World) : Prop :=
  ∃ ob : Nat, v = .slice (some ⟨ob, 0, none⟩) x.length x.length ∧ W.heap[ob]? = some (.cells (intCells x).toArray 3 (0, 0)) ∧ ob ∈ Ms

/-- The ledger lies in its box. -/
structure RoInv (bl : Nat) (l : LedgerD) (tv nv : Value) (W : World) : Prop where
  lb : W.heap[bl]? = some (.cells (lcells l tv nv) 34 (0, 0))
  tal : TalliesAt W tv l.field.tallies

set_option maxHeartbeats 1600000 in
theorem rchoose_any (l : LedgerD) (hf : faultF l.field = 0) (tv nv : Value) (bl bo by_ bc ob y : Nat) (hd1 : by_ ≠ ob) (hd2 : bo ≠ ob) (hd3 : bc ≠ ob) (J : List Nat → Option Nat → World → Prop)
    (hInv : ∀ Ms s W1, J Ms s W1 → RoInv bl l tv nv W1)
    (hstep : ∀ Ms Ms' s W1 W2, J Ms s W1 → Ext Ms W1 W2 → (∀ m ∈ Ms', m ∈ Ms ∨ (W1.heap.size ≤ m ∧ m < W2.heap.size)) → True → J Ms' s W2)
    (hY : ∀ Ms k v W1 (hk : k < (truthsF l.field []).length), J Ms (some k) W1 → RowE Ms (truthsF l.field [])[k] v W1 → YieldAt Fence.wide 0 Try.prog y #[v] W1 fun e W' =>
       ((∀ m ∈ Ms, m ∉ [] → m < W1.heap.size → W'.heap[m]? = W1.heap[m]?) ∧ W1.heap.size ≤ W'.heap.size) ∧ ((e = .returned (.bool true) ∧ J Ms (some (k + 1)) W') ∨ (e = .returned (.bool false) ∧ J Ms none W'))) :
    ∀ (m i k : Nat) (pre : List Int) (W : World) (o : List Int), i + m = l.field.rows.toNat → pre.length = i → o.length = l.field.rows.toNat → o.take i = pre → AtFrom (rangesF l.field) i k pre → ChR W l.field.rows.toNat bl bo by_ bc ob y o → J [ob, by_, bo, bc] (some (cntF l.field [] k)) W →
      CallsIn Fence.wide 0 Try.prog 91 #[iv i, .pointer (some ⟨bo, 0, none⟩), .pointer (some ⟨bl, 0, none⟩), .pointer (some ⟨by_, 0, none⟩), .pointer (some ⟨bc, 0, none⟩)] W
        (fun e W' => (e = .returned (.bool true) ∧ J [ob, by_, bo, bc] (some (cntF l.field [] (k + (prodL ((rangesF l.field).drop i)).length))) W' ∧ ∃ o', o'.length = l.field.rows.toNat ∧ o'.take i = pre ∧ ChR W' l.field.rows.toNat bl bo by_ bc ob y o') ∨
          (e = .returned (.bool false) ∧ J [ob, by_, bo, bc] none W')) := by
  have hS := soundF_of hf
  have hRl : (rangesF l.field).length = l.field.rows.toNat := by simp [rangesF]
  intro m
  induction m with
  | zero =>
    intro i k pre W o him hpl hol hot hat hst hJ
    have hrow : (i : Int) = (l.field.rows.toNat : Int) := by omega
    obtain ⟨hone, hk, hx⟩ := hat.last (by omega)
    rw [hone]
    obtain rfl : o = pre := by rw [← hot, show i = o.length by omega, List.take_length]
    have hk' : k < (allF l.field).length := hk
    have hxx : (allF l.field)[k] = o := hx
    obtain ⟨hbl, htl⟩ := hInv _ _ _ hJ
    have hrt := wProveTruth_any l.field tv (.slice (some ⟨ob, 0, none⟩) l.field.rows.toNat l.field.rows.toNat) o W htl (by rw [← hol]; exact SlAt.of_block (cs := (intCells o).toArray) 1 o.length hst.cells (by simp [intCells]) (by have := hS.rows1; simp only [maxLen]; omega))
    rw [proveTruth_all hf (hxx ▸ List.getElem_mem hk')] at hrt
    obtain ⟨cc1, cf1, cl1⟩ := cells_of_block hbl
    obtain ⟨cc2, cf2, cl2⟩ := cells_of_block hst.out
    obtain ⟨cc3, cf3, cl3⟩ := cells_of_block hst.y
    have HR := Lib.hid hrt
    have HS := Lib.hid hst
    have HJ := Lib.hid hJ
    have HST := Lib.hid hstep
    have HY := Lib.hid hY
    have HK := Lib.hid (show ∃ h : k < (allF l.field).length, (allF l.field)[k] = o from ⟨hk', hxx⟩)
    have HO := Lib.hid (And.intro hol hot)
    have hr7 := hS.rows1
    have heq : ((i : Int) == (l.field.rows.toNat : Int)) = true := by simpa using hrow
    clear hrt hInv hstep hY hst hJ hbl htl hat hxx hx hk hk' hone hrow hot hS
    obtain ⟨q, hq⟩ : ∃ q, rightF l.field [] o = q := ⟨_, rfl⟩
    have HQ := Lib.hid hq
    rw [hq] at HR
    clear hq
    have hol' : o.length = l.field.rows.toNat := HO.out.1
    obtain ⟨rn, hrn⟩ : ∃ rn, l.field.rows.toNat = rn := ⟨_, rfl⟩
    rw [hrn] at HR heq cc2 hol' ⊢
    have HRN := Lib.hid hrn
    clear hrn him
    cases q
    · skip
      refine callsIn_of_wp Try.func91 rfl trivial ?_
      simp only [Try.ntmps91, List.size_toArray, List.length_cons, List.length_nil, Nat.reduceAdd, Nat.reduceSub, Array.replicate_succ, Array.replicate_zero, List.push_toArray, List.append_toArray, List.nil_append, List.cons_append]
      gi_wp2_with fail
      refine (callsIn_wide.2 HR.out).mono ?_
      rintro e W1 ⟨rfl, hb1⟩
      have HB1 := Lib.hid hb1
      clear hb1
      gi_wp2_with fail
      go_returns
      have hJ1 := HST.out _ _ _ _ _ HJ.out (Ext.of_below HB1.out) (fun m hm => .inl hm) trivial
      obtain ⟨hk', hxx⟩ := HK.out
      rw [← cntF_no hk' (by rw [hxx]; exact HQ.out)] at hJ1
      exact .inl ⟨by simp, hJ1, o, hol', HO.out.2, HRN.out ▸ HS.out.below HB1.out⟩
    · skip
      refine callsIn_of_wp Try.func91 rfl trivial ?_
      simp only [Try.ntmps91, List.size_toArray, List.length_cons, List.length_nil, Nat.reduceAdd, Nat.reduceSub, Array.replicate_succ, Array.replicate_zero, List.push_toArray, List.append_toArray, List.nil_append, List.cons_append]
      gi_wp2_with fail
      refine (callsIn_wide.2 HR.out).mono ?_
      rintro e W1 ⟨rfl, hb1⟩
      obtain ⟨hc1, hf1⟩ := bcell hb1
      have hs1 := hb1.size
      have HB1 := Lib.hid hb1
      have hJ1 := HST.out _ _ _ _ _ HJ.out (Ext.of_below hb1) (fun m hm => .inl hm) trivial
      obtain ⟨hk', hxx⟩ := HK.out
      obtain ⟨hc, hx⟩ := truthsF_at hk' (by rw [hxx]; exact HQ.out)
      obtain ⟨g1, t1, a1, b1, hy1, hR1⟩ := HY.out _ _ (.slice (some ⟨ob, 0, none⟩) rn rn) W1 hc hJ1 (by
        rw [hx, hxx]
        exact ⟨ob, by rw [hol'], (HS.out.below HB1.out).cells, by simp⟩)
      have hcn : cntF l.field [] (k + 1) = cntF l.field [] k + 1 := cntF_yes hk' (by rw [hxx]; exact HQ.out)
      have HR1 := Lib.hid hR1
      have HCN := Lib.hid hcn
      clear hR1 hJ1 hk' hxx hc hx hcn hb1
      gi_wp2_with fail
      refine HR1.out.mono ?_
      rintro e W' ⟨⟨hkeep, hsz⟩, ⟨rfl, hJ⟩ | ⟨rfl, hJ⟩⟩
      · have HJ' := Lib.hid hJ
        have HK' := Lib.hid hkeep
        clear hJ hkeep
        gi_wp2_with fail
        go_returns
        exact .inl ⟨by simp, by rw [HCN.out]; exact HJ'.out, o, hol', HO.out.2, HRN.out ▸ (HS.out.below HB1.out).kept (fun m hm hml => HK'.out m hm (by simp) hml)⟩
      · have HJ' := Lib.hid hJ
        clear hJ hkeep
        gi_wp2_with fail
        go_returns
        exact .inr ⟨by simp, HJ'.out⟩
  | succ m ih =>
    intro i k pre W o him hpl hol hot hat hst hJ
    have hi : i < (rangesF l.field).length := by omega
    have hcount := AtFrom.count hi
    have hw0 := hS.weed0
    have hw1 := hS.weed1
    have hr7 := hS.rows1
    have hr0 := hS.rows0
    have hri : (rangesF l.field)[i] = (-1, l.field.weeders - 1) := by simp [rangesF]
    obtain ⟨z, hz, hz4⟩ : ∃ z : Nat, (z : Int) = l.field.weeders + 1 ∧ z ≤ 4 := ⟨(l.field.weeders + 1).toNat, by omega, by omega⟩
    have hsz : (sizeR (rangesF l.field)[i]).toNat = z := by rw [hri]; unfold sizeR; simp only; omega
    rw [hsz] at hcount
    obtain ⟨hbl, htl⟩ := hInv _ _ _ hJ
    obtain ⟨cc1, cf1, cl1⟩ := cells_of_block hbl
    obtain ⟨cc2, cf2, cl2⟩ := cells_of_block hst.out
    have hne : (i : Int) ≠ (l.field.rows.toNat : Int) := by omega
    have hneb : ((i : Int) == (l.field.rows.toNat : Int)) = false := by simpa using hne
    have HNX : Hid (∀ c : Nat, c < z → AtFrom (rangesF l.field) (i + 1) (k + c * (prodL ((rangesF l.field).drop (i + 1))).length) (pre ++ [(c : Int) - 1])) := Lib.hid (fun c hc => by
      have := hat.next hi c (by rw [hsz]; exact hc)
      rw [hri] at this
      rw [show (c : Int) - 1 = -1 + (c : Int) from by omega]
      exact this)
    have HI := Lib.hid hInv
    have HST := Lib.hid hstep
    have HS := Lib.hid hst
    have HJ := Lib.hid hJ
    have HIH := Lib.hid ih
    have HOL := Lib.hid (And.intro hol hot)
    have HCZ := Lib.hid hcount
    have HZ := Lib.hid hz
    have hi7 : i < 7 := by omega
    have hiR : i < l.field.rows.toNat := by omega
    have hR7 : l.field.rows.toNat ≤ 7 := by omega
    clear hInv hstep hY hat hst hJ ih hcount hne hbl htl hri hsz hi hol hot hRl hz hS
    obtain ⟨rn, hrn⟩ : ∃ rn, l.field.rows.toNat = rn := ⟨_, rfl⟩
    rw [hrn] at HS HIH HOL hiR hR7 him hneb cc2 ⊢
    clear hrn
    refine callsIn_of_wp Try.func91 rfl trivial ?_
    simp only [Try.ntmps91, List.size_toArray, List.length_cons, List.length_nil, Nat.reduceAdd, Nat.reduceSub, Array.replicate_succ, Array.replicate_zero, List.push_toArray, List.append_toArray, List.nil_append, List.cons_append]
    gi_wp2_with fail
    rw [← HZ.out]
    gi_loopw [26] (fun u wr => ∃ c : Nat, c ≤ z ∧ u = .int .i64 c ∧ ∃ o' : List Int, o'.length = rn ∧ o'.take i = pre ∧ ChR wr rn bl bo by_ bc ob y o' ∧ J [ob, by_, bo, bc] (some (cntF l.field [] (k + c * (prodL ((rangesF l.field).drop (i + 1))).length))) wr)
      (fun u _ => z - (intOf u).toNat)
    case atStart => exact ⟨0, Nat.zero_le _, rfl, o, HOL.out.1, HOL.out.2, HS.out, by simpa using HJ.out⟩
    case round =>
      obtain ⟨c, hcz, rfl, o', ho1, ho2, hst, hJ⟩ := hrel
      by_cases hlt : c < z
      · obtain ⟨cd1, cfd1, cld1⟩ := cells_of_block hst.out
        obtain ⟨cd3, cfd3, cld3⟩ := cells_of_block hst.ch
        obtain ⟨yv, hcell⟩ : ∃ yv, wr.cell? ⟨ob, i, none⟩ = some (iv yv) := ⟨_, cell_of_ints hst.cells (show i < o'.length by omega)⟩
        have hab := World.block_lt_of_cell? wr _ hcell
        have hfr := frozen_of_block hst.cells i
        have HSt := Lib.hid hst
        have HJt := Lib.hid hJ
        have HO := Lib.hid (And.intro ho1 ho2)
        have hltI : (c : Int) < z := by omega
        clear hst hJ ho1 ho2 cc1 cf1 cl1 cc2 cf2 cl2
        have hstS := HSt.out.set hd1 hd2 hd3 i ((c : Int) - 1)
        have hJS : J [ob, by_, bo, bc] (some (cntF l.field [] (k + c * (prodL ((rangesF l.field).drop (i + 1))).length))) (wr.setCell ⟨ob, i, none⟩ (iv ((c : Int) - 1))) :=
          HST.out _ _ _ _ _ HJt.out ((ext_set wr ⟨ob, i, none⟩ _).more (fun x hx => by simp at hx; subst hx; simp)) (fun m hm => .inl hm) trivial
        have hcall := HIH.out (i + 1) _ (pre ++ [(c : Int) - 1]) _ (o'.set i ((c : Int) - 1)) (by omega) (by simp [hpl]) (by simp [HO.out.1]) (by
          rw [List.take_set]
          rw [List.take_add_one, HO.out.2]
          have hio : i < o'.length := by have := HO.out.1; omega
          rw [List.getElem?_eq_getElem hio]
          simp [List.set_append_right, hpl]) (HNX.out c hlt) hstS hJS
        rw [show ((i + 1 : Nat) : Int) = (i : Int) + 1 from by omega] at hcall
        have HCALL := Lib.hid hcall
        clear hcall hstS hJS
        gi_wp2_with fail
        refine HCALL.out.mono ?_
        rintro e W2 (⟨rfl, hJ2, o2, ho1, ho2, hst2⟩ | ⟨rfl, hJ2⟩)
        · have HJ2 := Lib.hid hJ2
          have HST2 := Lib.hid hst2
          have HO2 := Lib.hid (And.intro ho1 ho2)
          clear hJ2 hst2 ho1 ho2 cd1 cfd1 cld1 cd3 cfd3 cld3 hcell hab hfr
          gi_wp2_with fail
          go_roundw
          case rel =>
            refine ⟨c + 1, by omega, by go_num, o2, HO2.out.1, ?_, HST2.out, ?_⟩
            · have := congrArg (List.take i) HO2.out.2
              rw [List.take_take, Nat.min_eq_left (by omega)] at this
              rw [this, List.take_append_of_le_length (by omega), List.take_of_length_le (by omega)]
            · rw [Nat.add_mul, Nat.one_mul, ← Nat.add_assoc]; exact HJ2.out
          case measure => simp [intOf]; omega
        · have HJ2 := Lib.hid hJ2
          clear hJ2 cd1 cfd1 cld1 cd3 cfd3 cld3 hcell hab hfr
          gi_wp2_with fail
          go_returns
          exact .inr ⟨by simp, HJ2.out⟩
      · have hcz' : c = z := by omega
        subst hcz'
        have HJt := Lib.hid hJ
        have HSt := Lib.hid hst
        have HO := Lib.hid (And.intro ho1 ho2)
        clear hJ hst ho1 ho2 cc1 cf1 cl1 cc2 cf2 cl2
        gi_wp2_with fail
        go_returns
        refine .inl ⟨by simp, ?_, o', HO.out.1, HO.out.2, HSt.out⟩
        rw [HCZ.out]; exact HJt.out

theorem rows_seq (l : LedgerD) (hf : faultF l.field = 0) (tv nv : Value) (bl : Nat) :
    SeqC Try.prog 90 #[.pointer (some ⟨bl, 0, none⟩)] (truthsF l.field []) RowE [] (fun _ => True) (RoInv bl l tv nv) := by
  intro y J W hInv hstep hY h0
  obtain ⟨hbl, htl⟩ := hInv _ _ _ h0
  have hch := fun bo by_ bc ob hd1 hd2 hd3 => rchoose_any l hf tv nv bl bo by_ bc ob y hd1 hd2 hd3 J hInv hstep hY
  have hS := soundF_of hf
  have hr7 := hS.rows1
  have hr0 := hS.rows0
  obtain ⟨cc1, cf1, cl1⟩ := cells_of_block hbl
  obtain ⟨rn, hrn⟩ : ∃ rn : Nat, l.field.rows = rn := ⟨l.field.rows.toNat, by omega⟩
  have hrt : l.field.rows.toNat = rn := by omega
  have HCH := Lib.hid hch
  have HST := Lib.hid hstep
  have HJ := Lib.hid h0
  have HRN := Lib.hid (And.intro hrn hrt)
  have hmk := make_ints rn (by omega)
  have hn3 : ∀ (A B C : Obj) (v : Value) (t : TypeId), ((((W.alloc A).alloc B).alloc C).alloc (.cells #[v] t)).cell? ⟨W.heap.size + 1 + 1 + 1, 0, none⟩ = some v := fun A B C v t => cell_of_block0 (heap_new3 W A B C _)
  have hf3 : ∀ (A B C : Obj) (v : Value) (t : TypeId), ((((W.alloc A).alloc B).alloc C).alloc (.cells #[v] t)).frozen? ⟨W.heap.size + 1 + 1 + 1, 0, none⟩ = false := fun A B C v t => frozen_of_block (heap_new3 W A B C _) 0
  have hl4 : lcells l tv nv = #[iv (rn : Int), iv l.field.weeders, iv l.field.left.1, iv l.field.left.2, tv, iv l.rate, iv l.box.1, iv l.box.2, nv] := by unfold lcells; rw [hrn]
  rw [hl4] at cc1
  clear hInv hstep hY hch h0 hS hbl htl hrn hrt hl4
  go_enter Try.func90, Try.ntmps90
  go_wp2_with fail
  refine (callsIn_wide.1 (HCH.out (W.heap.size + 1 + 1) W.heap.size (W.heap.size + 1 + 1 + 1) (W.heap.size + 1) (by omega) (by omega) (by omega) l.field.rows.toNat 0 0 [] _ (List.replicate rn 0) (by omega) rfl (by simp [HRN.out.2]) (by simp) (AtFrom.zero _) ⟨?_, ?_, ?_, ?_⟩
    (HST.out _ _ _ _ _ HJ.out (Ext.of_below (by repeat (first | exact Below.refl _ _ | assumption | refine bgo ?_ (by assumption) | refine bgoAlloc ?_ _ | refine bgoDrew ?_ | refine bgoSet ?_ (by simp; omega) _))) (fun m hm => .inr (by simp at hm; (first | omega | (simp; omega)))) trivial))).mono ?_
  · exact ((Below.heap_alloc _ _ _ (by simp; omega)).trans ((Below.heap_alloc _ _ _ (by simp; omega)).trans ((Below.heap_alloc _ _ _ (by simp)).trans (heap_new0 _ _))))
  · rw [HRN.out.2]; exact ((Below.heap_alloc _ _ _ (by simp)).trans (heap_new2 _ _ _ _))
  · exact heap_new3 _ _ _ _ _
  · exact ((Below.heap_alloc _ _ _ (by simp)).trans ((Below.heap_alloc _ _ _ (by simp)).trans (heap_new1 _ _ _)))
  · rintro e W2 (⟨rfl, hJ2, _⟩ | ⟨rfl, hJ2⟩)
    · have HJ2 := Lib.hid hJ2
      clear hJ2 hn3 hf3 hmk
      go_wp2_with fail
      go_end0
      refine ⟨⟨_, rfl⟩, [W.heap.size + 1, W.heap.size, W.heap.size + 1 + 1, W.heap.size + 1 + 1 + 1], .inl ?_⟩
      have := HJ2.out
      rw [← cntF_all]
      simpa [allF] using this
    · have HJ2 := Lib.hid hJ2
      clear hJ2 hn3 hf3 hmk
      go_wp2_with fail
      go_end0
      exact ⟨⟨_, rfl⟩, _, .inr HJ2.out⟩

/-- rows RETURNS ITS ITERATOR: the ledger is boxed. -/
theorem rows_any (l : LedgerD) (tv nv : Value) (w : World) :
    Calls Try.prog 70 #[lv l tv nv] w (fun e w' => e = .returned (.func (.func 90) #[] #[.pointer (some ⟨w.heap.size, 0, none⟩)]) ∧ w' = w.alloc (.cells (lcells l tv nv) 34)) := by
  go_enter Try.func70, Try.ntmps70
  go_wp2
  go_returns
  exact ⟨by simp, rfl⟩

end Go.Proofs.Ytechgmnkcijahaa

namespace Go.Proofs.Ytechgmnkcijahaa
open Go.RowKit Go.RG Go.SL Go.Shelf Cou Go.TB
set_option maxHeartbeats 400000
set_option maxRecDepth 10000
attribute [local go_sem] Oper.semAt_some

theorem tDues : SliceT Try.prog 74 79 (.agg #[iv 0, iv 0, iv 0]) 3 24 := ⟨Try.underlying74, by kernel_rfl, rfl, by omega⟩

/-- The dues in the first truths, each once in a row. -/
def duesTo (l : LedgerD) (k : Nat) : List (List Int) := ((truthsF l.field []).take k).foldl (fun acc t => snocD acc (duesV l.rate t)) []
def duesT (l : LedgerD) : List (List Int) := duesTo l (truthsF l.field []).length
theorem duesTo_succ {l : LedgerD} {k : Nat} {x : List Int} (hx : (truthsF l.field [])[k]? = some x) : duesTo l (k + 1) = snocD (duesTo l k) (duesV l.rate x) := by
  obtain ⟨hk, rfl⟩ := List.getElem?_eq_some_iff.1 hx
  unfold duesTo
  rw [List.take_succ_eq_append_getElem hk, List.foldl_append]
  rfl
theorem duesTo_three (l : LedgerD) (k : Nat) : ∀ y ∈ duesTo l k, y.length = 3 := fun y hy => by
  unfold duesTo at hy
  rw [mem_fold] at hy
  rcases hy with h | ⟨t, _, rfl⟩
  · cases h
  · exact duesV_len _ _
theorem duesTo_len (l : LedgerD) : ∀ k, (duesTo l k).length ≤ k := by
  intro k
  unfold duesTo
  have : ∀ (ts : List (List Int)) (acc : List (List Int)), (ts.foldl (fun acc t => snocD acc (duesV l.rate t)) acc).length ≤ acc.length + ts.length := by
    intro ts
    induction ts with
    | nil => intro acc; simp
    | cons t ts ih =>
      intro acc
      have h1 := ih (snocD acc (duesV l.rate t))
      have h2 := snocD_len acc (duesV l.rate t)
      simp only [List.foldl_cons, List.length_cons]
      omega
  have h := this ((truthsF l.field []).take k) []
  simp only [List.length_nil, Nat.zero_add, List.length_take] at h
  omega
/-- The dues in all truths, and no others. -/
theorem mem_duesT {l : LedgerD} {d : List Int} : d ∈ duesT l ↔ ∃ t ∈ truthsF l.field [], d = duesV l.rate t := by
  unfold duesT duesTo
  rw [List.take_length, mem_fold]
  simp

abbrev wwcells (l : LedgerD) (tv nv v : Value) (mb : Nat) : Array Value := #[iv l.field.rows, iv l.field.weeders, iv l.field.left.1, iv l.field.left.2, tv, iv l.rate, iv l.box.1, iv l.box.2, nv, v, .map (some mb)]

/-- work's own blocks: two boxes of the ledger, the table, the ledger at work, the pointer to it. -/
structure WoSt (B : Nat) (l : LedgerD) (tv nv : Value) (ls : List (List Int)) (Ms : List Nat) (W : World) : Prop where
  b0 : W.heap[B]? = some (.cells (lcells l tv nv) 34 (0, 0))
  tab : W.heap[B + 1]? = some (.map #[] 0)
  work : ∃ v, W.heap[B + 2]? = some (.cells (wwcells l tv nv v (B + 1)) 77 (0, 0)) ∧ W.ownsRow (B + 7) 79 3 v ls.length (ls.flatMap intCells) ∧ ∀ g, v.ownBlock = some g → g ∉ Ms ∧ g < W.heap.size
  ptr : W.heap[B + 3]? = some (.cells #[.pointer (some ⟨B + 2, 0, none⟩)] 64 (0, 0))
  b4 : W.heap[B + 4]? = some (.cells (lcells l tv nv) 34 (0, 0))

theorem WoSt.kept {B : Nat} {l : LedgerD} {tv nv : Value} {ls : List (List Int)} {Ms Ms' : List Nat} {W W' : World} (h : WoSt B l tv nv ls Ms W) (hs : W.heap.size ≤ W'.heap.size) (hk : ∀ b, B ≤ b → b < B + 5 → W'.heap[b]? = W.heap[b]?)
    (ho : ∀ g, B + 7 ≤ g → g < W.heap.size → g ∉ Ms → W'.heap[g]? = W.heap[g]?) (hM : ∀ m ∈ Ms', m ∈ Ms ∨ (W.heap.size ≤ m ∧ m < W'.heap.size)) : WoSt B l tv nv ls Ms' W' := by
  obtain ⟨v, h1, h2, h3⟩ := h.work
  refine ⟨(hk _ (by omega) (by omega)).trans h.b0, (hk _ (by omega) (by omega)).trans h.tab, ⟨v, (hk _ (by omega) (by omega)).trans h1, owns_keep h2 fun g hg => ho g (owns_ge h2 g hg).1 (owns_ge h2 g hg).2 (h3 g hg).1, fun g hg => ⟨fun hm => ?_, by have := (h3 g hg).2; omega⟩⟩,
    (hk _ (by omega) (by omega)).trans h.ptr, (hk _ (by omega) (by omega)).trans h.b4⟩
  rcases hM g hm with h4 | h4
  · exact (h3 g hg).1 h4
  · have := (h3 g hg).2; omega

/-- A ledger at work, with the dues in all truths, and the table of what can have been paid. -/
structure LwAt (W : World) (wb mb : Nat) (l : LedgerD) (tv nv v : Value) (ls : List (List Int)) : Prop where
  cells : W.heap[wb]? = some (.cells (wwcells l tv nv v mb) 77 (0, 0))
  tal : TalliesAt W tv l.field.tallies
  notes : TriplesAt W nv l.notes
  truth : SlAt 3 W v ls.length (ls.flatMap intCells)

def WorkPostL (l : LedgerD) (tv nv : Value) (w : World) (e : Ending) (W : World) : Prop :=
  ∃ (wb mb : Nat) (v : Value), e = .returned (.pointer (some ⟨wb, 0, none⟩)) ∧ w.heap.size ≤ wb ∧ w.heap.size ≤ mb ∧ W.heap[mb]? = some (.map #[] 0) ∧ LwAt W wb mb l tv nv v (duesT l) ∧ Below w.heap.size w W

set_option maxHeartbeats 4000000 in
theorem gwork_any (l : LedgerD) (tv nv : Value) (hf : faultF l.field = 0) (h0 : 0 ≤ l.rate) (h1 : l.rate ≤ 50) (w : World) (ht : TalliesAt w tv l.field.tallies) (hn : TriplesAt w nv l.notes) :
    Calls Try.prog 49 #[lv l tv nv] w (WorkPostL l tv nv w) := by
  obtain ⟨ot, ct, rfl⟩ := ht.open
  obtain ⟨on, cn, rfl⟩ := hn.open
  have hS := soundF_of hf
  have hr0 := hS.rows0
  have hr7 := hS.rows1
  have hw3 := hS.weed1
  have hmm := @run_makeMap Try.prog
  have HF := Lib.hid hf
  have HS := Lib.hid hS
  have HT' : Hid (∀ W, Below w.heap.size w W → TalliesAt W (.slice ot l.field.tallies.length ct) l.field.tallies) := Lib.hid (fun W hb => ht.below hb (Nat.le_refl _))
  have HN' : Hid (∀ W, Below w.heap.size w W → TriplesAt W (.slice on l.notes.length cn) l.notes) := Lib.hid (fun W hb => hn.below hb (Nat.le_refl _))
  clear ht hn hf hS
  obtain ⟨tv, htv⟩ : ∃ tv, Value.slice ot l.field.tallies.length ct = tv := ⟨_, rfl⟩
  obtain ⟨nv, hnv⟩ : ∃ nv, Value.slice on l.notes.length cn = nv := ⟨_, rfl⟩
  rw [htv] at HT' ⊢
  rw [hnv] at HN' ⊢
  refine (callsIn_wide (n := 0)).1 ?_
  refine callsIn_of_wp_marks Try.func49 rfl trivial ?_
  simp only [Try.ntmps49, List.size_toArray, List.length_cons, List.length_nil, Nat.reduceAdd, Nat.reduceSub, Array.replicate_succ, Array.replicate_zero, List.push_toArray, List.append_toArray, List.nil_append, List.cons_append]
  gi_wp2_with fail
  refine (callsIn_wide.2 (rows_any l tv nv _)).mono ?_
  rintro e w1 ⟨rfl, rfl⟩
  gi_wp2_with fail
  obtain ⟨B, hBdef⟩ : ∃ B, w.heap.size = B := ⟨_, rfl⟩
  rw [hBdef]
  obtain ⟨w4, hw4⟩ : ∃ w4, (((((w.alloc (.cells (lcells l tv nv) 34)).alloc (.map #[] 0)).alloc (.cells #[iv l.field.rows, iv l.field.weeders, iv l.field.left.1, iv l.field.left.2, tv, iv l.rate, iv l.box.1, iv l.box.2, nv, .slice none 0 0, .map (some (B + 1))] 77)).alloc (.cells #[.pointer (some ⟨B + 1 + 1, 0, none⟩)] 64)).alloc (.cells (lcells l tv nv) 34)) = w4 := ⟨_, rfl⟩
  have hsz4 : w4.heap.size = B + 5 := by rw [← hw4]; simp; omega
  have HB4 : Hid (Below w.heap.size w w4) := Lib.hid (by rw [← hw4]; exact (by repeat (first | exact Below.refl _ _ | assumption | refine bgo ?_ (by assumption) | refine bgoAlloc ?_ _ | refine bgoDrew ?_ | refine bgoSet ?_ (by simp; omega) _)))
  have HA4 : Hid (WoSt B l tv nv [] [] w4) := Lib.hid (by
    rw [← hw4]
    refine ⟨?_, ?_, ⟨.slice none 0 0, ?_, ⟨rfl, .inl ⟨rfl, rfl⟩⟩, fun g hg => by cases hg⟩, ?_, ?_⟩
    · rw [← hBdef]; exact (Below.heap_alloc _ _ _ (by simp; omega)).trans ((Below.heap_alloc _ _ _ (by simp; omega)).trans ((Below.heap_alloc _ _ _ (by simp; omega)).trans ((Below.heap_alloc _ _ _ (by simp)).trans (heap_new0 _ _))))
    · rw [← hBdef]; exact (Below.heap_alloc _ _ _ (by simp)).trans ((Below.heap_alloc _ _ _ (by simp)).trans ((Below.heap_alloc _ _ _ (by simp)).trans (heap_new1 _ _ _)))
    · rw [← hBdef]; exact (Below.heap_alloc _ _ _ (by simp)).trans ((Below.heap_alloc _ _ _ (by simp)).trans (heap_new2 _ _ _ _))
    · rw [← hBdef]; exact (Below.heap_alloc _ _ _ (by simp)).trans (heap_new3 _ _ _ _ _)
    · have := heap_new0 ((((w.alloc (.cells (lcells l tv nv) 34)).alloc (.map #[] 0)).alloc (.cells #[iv l.field.rows, iv l.field.weeders, iv l.field.left.1, iv l.field.left.2, tv, iv l.rate, iv l.box.1, iv l.box.2, nv, .slice none 0 0, .map (some (B + 1))] 77)).alloc (.cells #[.pointer (some ⟨B + 1 + 1, 0, none⟩)] 64)) (.cells (lcells l tv nv) 34)
      simp only [World.size_alloc, hBdef] at this
      exact this)
  rw [hw4]
  clear hw4 hmm
  have hOs : ∀ b, b ∈ [B, B + 1, B + 2, B + 3, B + 4, B + 5, B + 6] ↔ (B ≤ b ∧ b < B + 7) := fun b => by simp; omega
  obtain ⟨Os, hOsd⟩ : ∃ Os, [B, B + 1, B + 2, B + 3, B + 4, B + 5, B + 6] = Os := ⟨_, rfl⟩
  rw [hOsd] at hOs
  clear hOsd
  have hcnt := truthsF_count HS.out []
  refine wpIn_rangeC (rows_seq l HF.out tv nv (B + 4)) rfl (enters_of Try.func90 (by kernel_rfl) rfl) rfl (by simp)
    (fun Ms k W => FrB w Os Ms W ∧ WoSt B l tv nv (duesTo l k) Ms W)
    (fun _ _ _ => False)
    ?hInv ?hInvx ?hI ?hIx ?hIp ?hIxp ?h0
    (fun a Ms k W1 a₁ W => ∃ (x : List Int) (ob : Nat), (truthsF l.field [])[k]? = some x ∧ a₁ = { tmps := (a.tmps.setIfInBounds 12 (.slice (some ⟨ob, 0, none⟩) x.length x.length)).setIfInBounds 4 (.slice (some ⟨ob, 0, none⟩) x.length x.length), defers := [] } ∧
      (FrB w Os Ms W ∧ WoSt B l tv nv (duesTo l k) Ms W) ∧ (ob ∈ Ms ∧ W.heap[ob]? = some (.cells (intCells x).toArray 3 (0, 0))) ∧
      (∀ m ∈ Ms, m ∉ ([] : List Nat) → m < W1.heap.size → W.heap[m]? = W1.heap[m]?) ∧ W1.heap.size ≤ W.heap.size)
    ?hMp ?hassign ?hbody ?hdone ?hstop
  case hInv =>
    rintro Ms k W ⟨hF, hP⟩
    exact ⟨hP.b4, HT'.out W hF.ext⟩
  case hInvx => rintro cd Ms W h; exact h.elim
  case hI =>
    rintro Ms Ms' k Wa Wb ⟨hF, hP⟩ hE hMs _
    exact ⟨(hF.step hE hMs).1, hP.kept hE.size (fun b h1 h2 => (hF.step hE hMs).2 b ((hOs b).2 (by omega))) (fun g h1 h2 h3 => hE.block g h2 h3) hMs⟩
  case hIx => rintro cd Ms Ms' Wa Wb h; exact h.elim
  case hIp =>
    rintro Ms k W r ob ⟨hF, hP⟩ hr
    exact ⟨hF.put ob (by omega), hP.kept (by simp) (fun b h1 h2 => World.putObj_heap_other (by omega)) (fun g h1 h2 h3 => World.putObj_heap_other (by omega)) (fun m hm => .inl hm)⟩
  case hIxp => rintro cd Ms W r ob h; exact h.elim
  case h0 =>
    intro o1 o2
    refine ⟨⟨bgoAlloc (bgoAlloc HB4.out _) _, by simp, by simp, fun b hb => ⟨by simp, by have := (hOs b).1 hb; simp; omega⟩⟩, ?_⟩
    exact HA4.out.kept (by simp; omega) (fun b h1 h2 => (Below.heap_alloc _ _ _ (by simp; omega)).trans (Below.heap_alloc _ _ _ (by omega))) (fun g h1 h2 h3 => by omega) (fun m hm => .inl hm)
  case hMp =>
    rintro Ms k W1 a₁ W obj ⟨x, ob, hx, ha, ⟨hF, hP⟩, ⟨hob, hcb⟩, hk, hs⟩
    have hap := (hF.apart (B + 6) ((hOs _).2 (by omega))).1
    refine ⟨x, ob, hx, ha, ⟨hF.put obj (by omega), hP.kept (by simp) (fun b h1 h2 => World.putObj_heap_other (by omega)) (fun g h1 h2 h3 => World.putObj_heap_other (by omega)) (fun m hm => .inl hm)⟩,
      ⟨hob, (World.putObj_heap_other (fun e => hap (by rw [show B + 6 = ob by omega]; exact hob))).trans hcb⟩,
      fun m hm h0 hml => (World.putObj_heap_other (fun e => hap (by rw [show B + 6 = m by omega]; exact hm))).trans (hk m hm h0 hml), by simpa using hs⟩
  case hassign =>
    rintro Ms k v W hk ⟨hF, hP⟩ ⟨ob, rfl, hcb, hob⟩ hlt
    have hxk : (truthsF l.field [])[k]? = some (truthsF l.field [])[k] := List.getElem?_eq_getElem hk
    generalize (truthsF l.field [])[k] = x at *
    gi_wp2
    exact ⟨⟨x, ob, hxk, rfl, ⟨hF, hP⟩, ⟨hob, hcb⟩, fun _ _ _ _ => trivial, Nat.le_refl _⟩, trivial, trivial⟩
  case hbody =>
    rintro Ms k W1 a₁ W busy hk ⟨x, ob, hx, rfl, ⟨hF, hP⟩, ⟨hob, hcb⟩, hkeep, hsz⟩ hrec hD
    simp only [List.setIfInBounds_toArray, List.set_cons_succ, List.set_cons_zero]
    have hxl := truthsF_len (List.mem_of_getElem? hx)
    have hxm := (truthsF_mem (List.mem_of_getElem? hx)).1
    have hiv : IntsAt W (.slice (some ⟨ob, 0, none⟩) x.length x.length) x := SlAt.of_block (cs := (intCells x).toArray) 1 x.length hcb (by simp [intCells]) (by simp only [maxLen]; omega)
    have hdues := dues_any l tv nv _ x W hiv h0 h1 (by omega) (fun n hn => by
      obtain ⟨i, hi, rfl⟩ := List.getElem_of_mem hn
      have := (mem_allF.1 hxm).2 i (by omega)
      rw [show x.getD i 0 = x[i] from by simp [List.getD, hi]] at this
      omega)
    have hsu := duesTo_succ (l := l) hx
    have hdl := duesV_len l.rate x
    obtain ⟨ys, hys0⟩ : ∃ ys, duesV l.rate x = ys := ⟨_, rfl⟩
    rw [hys0] at hdues hsu hdl
    obtain ⟨y0, y1, y2, hys⟩ := three_of hdl
    have hdues' : Calls Try.prog 34 #[lv l tv nv, .slice (some ⟨ob, 0, none⟩) x.length x.length] W (fun e w' => e = .returned (.agg #[iv y0, iv y1, iv y2]) ∧ Below W.heap.size W w' ∧ W.heap.size < w'.heap.size) := by rw [hys] at hdues; exact hdues
    obtain ⟨c0, f0, l0⟩ := cells_of_block hP.b0
    have hk25 : k ≤ 2500 := by omega
    have hlk := duesTo_len l k
    have h3s := duesTo_three l k
    have HF' := Lib.hid hF
    have HP := Lib.hid hP
    have HDU := Lib.hid hdues'
    have HSU := Lib.hid hsu
    have HK := Lib.hid (And.intro hkeep (And.intro hrec hD))
    have HYS := Lib.hid (And.intro hys hdl)
    have H3 := Lib.hid h3s
    clear hF hP hdues hdues' hsu hdl hys hys0 hkeep hrec hD hx hxm hcb hiv hxl h3s
    generalize duesTo l (k + 1) = ls' at *
    generalize duesTo l k = ls at *
    gi_wp2_with fail
    refine (CallsIn.inRound _ (callsIn_wide.2 HDU.out)).mono ?_
    rintro e w6 ⟨rfl, hb, hgrow⟩
    obtain ⟨W7, hW7⟩ : ∃ W7, w6.alloc (.cells #[iv y0, iv y1, iv y2] 79) = W7 := ⟨_, rfl⟩
    have hB7 : Below W.heap.size W W7 := by rw [← hW7]; exact bgoAlloc hb _
    have hbt7 : W7.heap[w6.heap.size]? = some (.cells #[iv y0, iv y1, iv y2] 79 (0, 0)) := by rw [← hW7]; exact heap_new0 _ _
    have hsz7 : W7.heap.size = w6.heap.size + 1 := by rw [← hW7]; simp
    have hap : ∀ b ∈ Os, b ∉ Ms ∧ b < W.heap.size := HF'.out.apart
    have hin : ∀ b, B ≤ b → b < B + 7 → b ∈ Os := fun b h1 h2 => (hOs b).2 (by omega)
    have hF7 := (HF'.out.step (Ext.of_below hB7) (fun m hm => .inl hm)).1
    have hP7 : WoSt B l tv nv ls Ms W7 := HP.out.kept hB7.size (fun b h1 h2 => hB7.block b (hap b (hin b h1 (by omega))).2) (fun g h1 h2 h3 => hB7.block g h2) (fun m hm => .inl hm)
    have hrec7 : W7.heap[w4.heap.size + 1]? = some (.loop busy) := (hB7.block _ (Array.getElem?_eq_some_iff.1 HK.out.2.1).1).trans HK.out.2.1
    have hD7 : W7.heap[w4.heap.size]? = some (.deferred (some [])) := (hB7.block _ (Array.getElem?_eq_some_iff.1 HK.out.2.2).1).trans HK.out.2.2
    have hkp7 : ∀ m ∈ Ms, m ∉ ([] : List Nat) → m < W1.heap.size → W7.heap[m]? = W1.heap[m]? := fun m hm h0 hml => (hB7.block m (by omega)).trans (HK.out.1 m hm h0 hml)
    obtain ⟨s0, hs0⟩ : ∃ s0, W.heap.size = s0 := ⟨_, rfl⟩
    have HS0 : Hid (B + 7 ≤ s0 ∧ s0 ∉ Ms ∧ s0 < w6.heap.size) := Lib.hid ⟨by have := (hap (B + 6) (hin _ (by omega) (by omega))).2; omega, fun hm => by have := HF'.out.bnd s0 hm; omega, by omega⟩
    obtain ⟨v, hv1o, hv2o, hv3o⟩ := HP.out.work
    have hv1 := (hB7.block _ (Array.getElem?_eq_some_iff.1 hv1o).1).trans hv1o
    have hv2 := owns_keep hv2o fun g hg => hB7.block g (hv3o g hg).2
    have hv3 : ∀ g, v.ownBlock = some g → g ∉ Ms ∧ g < W7.heap.size := fun g hg => ⟨(hv3o g hg).1, by have := (hv3o g hg).2; have := hB7.size; omega⟩
    have HVO : Hid (∀ g, v.ownBlock = some g → g < s0) := Lib.hid (fun g hg => by have := (hv3o g hg).2; omega)
    clear hv1o hv2o hv3o
    obtain ⟨vo, vc, rfl⟩ := owns_slice hv2
    have hs1 : W1.heap.size ≤ W7.heap.size := by have := hB7.size; omega
    have HF7 := Lib.hid hF7
    have HP7 := Lib.hid hP7
    have HV := Lib.hid (And.intro hv1 (And.intro hv2 hv3))
    have HK7 := Lib.hid (And.intro hkp7 (And.intro hrec7 hD7))
    have HBT := Lib.hid hbt7
    have hs06 : s0 < w6.heap.size := by omega
    have hap' : ∀ b ∈ Os, b ∉ Ms ∧ b < W7.heap.size := fun b hb => ⟨(hap b hb).1, by have := (hap b hb).2; omega⟩
    clear hap
    have hap := hap'
    clear hap'
    obtain ⟨c1, f1, q1⟩ := cells_of_block (show W7.heap[B + 1 + 1 + 1]? = some (.cells #[.pointer (some ⟨B + 1 + 1, 0, none⟩)] 64 (0, 0)) from hP7.ptr)
    obtain ⟨c2, f2, q2⟩ := cells_of_block (show W7.heap[B + 1 + 1]? = some (.cells (wwcells l tv nv (.slice vo ls.length vc) (B + 1)) 77 (0, 0)) from hv1)
    obtain ⟨c3, f3, q3⟩ := cells_of_block hbt7
    clear hb hgrow c0 f0 l0 hF7 hP7 hv1 hv2 hv3 hkp7 hrec7 hD7 hbt7 HF' HP HK hB7 hs0
    gi_wp2_with fail
    (try rw [hW7])
    clear hW7
    have HSZ7 := Lib.hid hsz7
    clear hsz7
    rcases (List.eq_nil_or_concat ls).imp id (fun ⟨A, z, e⟩ => (⟨A, z, e.trans (List.concat_eq_append)⟩ : ∃ A z, ls = A ++ [z])) with rfl | ⟨A, z, rfl⟩
    · simp only [List.length_nil] at c2 HV HVO
      have HDD : Hid (snocD [] ys = [] ++ [ys]) := Lib.hid (by simp [snocD])
      refine wpIn_region_rgR 22 [] none [] (by kernel_rfl) (by kernel_rfl) (by kernel_rfl) ?_
      simp only [List.take_succ_cons, List.take_zero, List.drop_succ_cons, List.drop_zero]
      repeat (first | (refine tree_det (by rfl) _ (by rfl) (fun W hW => by go_simp; (try simp (disch := omega) only [IntWalk.i64_in]); try rfl) ?_; simp only [Act.put, List.setIfInBounds_toArray, List.set_cons_succ, List.set_cons_zero]) | (refine tree_skip (by rfl) (by rfl) ?_; simp only [Act.put, List.setIfInBounds_toArray, List.set_cons_succ, List.set_cons_zero]))
      intro W hE hF
      obtain ⟨hc, hf⟩ := bcell hE.below
      have hzE := hE.size
      (try simp only [World.size_alloc] at hzE)
      have hE7' : Ext [] W7 W := hE
      have hP8 : WoSt B l tv nv ([]) Ms W := HP7.out.kept hE7'.size (fun b h1 h2 => hE7'.block b (by have := (hap b (hin b h1 (by omega))).2; omega) (by simp)) (fun g h1 h2 h3 => hE7'.block g h2 (by simp)) (fun m hm => .inl hm)
      have hbt8 := (hE7'.block _ (by omega) (by simp)).trans HBT.out
      obtain ⟨v8, hv81, hv82, hv83⟩ := hP8.work
      have hv8e : v8 = .slice (vo) (0) vc := by
        have h4 := (hE7'.block _ q2 (by simp)).trans HV.out.1
        rw [hv81] at h4
        simp only [Option.some.injEq, Obj.cells.injEq, and_true, Array.mk.injEq, List.cons.injEq, true_and] at h4
        exact h4
      rw [hv8e] at hv81 hv82 hv83
      clear hv8e
      (try simp only [List.length_nil] at hv82)
      (try simp only [List.length_append, List.length_cons, List.length_nil, Nat.zero_add] at hv82)
      obtain ⟨p1, p2, p3⟩ := cells_of_block (show W.heap[B + 1 + 1 + 1]? = some (.cells #[.pointer (some ⟨B + 1 + 1, 0, none⟩)] 64 (0, 0)) from hP8.ptr)
      obtain ⟨p4, p5, p6⟩ := cells_of_block (show W.heap[B + 1 + 1]? = some (.cells (wwcells l tv nv (.slice (vo) (0) vc) (B + 1)) 77 (0, 0)) from hv81)
      obtain ⟨p7, p8, p9⟩ := cells_of_block hbt8
      have hs78 := hE7'.size
      have HP8 := Lib.hid hP8
      have HV8 := Lib.hid (And.intro hv81 (And.intro hv82 hv83))
      have HE8 := Lib.hid hE7'
      clear hE hF hc hf hE7' hP8 hv81 hv82 hv83 hbt8 c1 f1 q1 c2 f2 q2 c3 f3 q3 hzE
      obtain ⟨gx, hgx, hgx1, hgx2, hgx3, hgx4⟩ : ∃ gx, (∀ g, (Value.slice (vo) (0) vc).ownBlock = some g → g = gx) ∧ B + 7 ≤ gx ∧ gx < W.heap.size ∧ gx ∉ Ms ∧ gx ≠ w6.heap.size := by
        cases hob2 : (Value.slice (vo) (0) vc).ownBlock with
        | none => exact ⟨s0, (fun g hg => by cases hg), HS0.out.1, by omega, HS0.out.2.1, by omega⟩
        | some g =>
          have h1 := owns_ge HV8.out.2.1 g hob2
          have h2 := HV8.out.2.2 g hob2
          exact ⟨g, (fun g' hg => by cases hg; rfl), h1.1, h1.2, h2.1, fun e => by have := HVO.out g hob2; omega⟩
      have HG := Lib.hid hgx
      clear hgx
      have z1 : gx ≠ B + 1 + 1 := by omega
      have z2 : gx ≠ B + 1 + 1 + 1 := by omega
      have z1' : B + 1 + 1 ≠ gx := by omega
      have z2' : B + 1 + 1 + 1 ≠ gx := by omega
      have z3' : w6.heap.size ≠ gx := by omega
      gi_wp2_with fail
      refine wpIn_region_rgR 8 [gx] (some 7) [(6, Spec.slice W.heap.size #[iv y0, iv y1, iv y2] 79 1), (7, ⟨fun _ v => ∃ o c, v = .slice o (0 + 1) c, fun _ v Wx => Wx.ownsRow (B + 7) 79 3 v (0 + 1) ((([]) ++ [ys]).flatMap intCells) ∧ (∀ g, v.ownBlock = some g → g = gx ∨ W.heap.size ≤ g)⟩)] (by kernel_rfl) (by kernel_rfl) (by kernel_rfl) ?_
      simp only [List.take_succ_cons, List.take_zero, List.drop_succ_cons, List.drop_zero]
      repeat (first | (refine tree_det (by rfl) _ (by rfl) (fun W hW => by go_simp; (try simp (disch := omega) only [IntWalk.i64_in]); try rfl) ?_; simp only [Act.put, List.setIfInBounds_toArray, List.set_cons_succ, List.set_cons_zero]) | (refine tree_skip (by rfl) (by rfl) ?_; simp only [Act.put, List.setIfInBounds_toArray, List.set_cons_succ, List.set_cons_zero]))
      refine tree_slice W.heap.size _ _ 1 (by rfl) (Nat.le_refl _) (by rfl) (by simpa using hgx2) (by simp) (fun W hW => by go_simp; try rfl) (fun b6 => ?_)
      simp only [Act.put, List.setIfInBounds_toArray, List.set_cons_succ, List.set_cons_zero]
      refine tree_some _ (by rfl) (by rfl) (by exact ⟨.slice none (0 + 1) 0, none, 0, rfl⟩) (fun Wa hE hF => ?_) (fun v Wa Wb ho hE => ?_) (fun v hv => ?_)
      · have hE' : Ext [] W Wa := hE
        obtain ⟨b', hb', hge, hcc⟩ := hF _ (List.Mem.head _) (by kernel_rfl)
        cases hb'
        have hown6 := owns_ext (Ms := []) HV8.out.2.1 hE' (by simp)
        have hsrc : SlAt 3 Wa (.slice (some ⟨b6, 0, none⟩) 1 1) 1 (intCells ys) := by
          rw [HYS.out.1]
          exact SlAt.of_block 3 1 hcc rfl (by decide)
        refine Does.mono (does_append_at tDues (by rfl) (by rfl) hown6 (by rfl) hsrc (one_ints _) (by omega) (by omega) (by have := hE'.size; omega)) ?_
        rintro v' Wc ⟨ho, hgr, hcase⟩
        refine ⟨owns_slice ho, ⟨?_, fun g hg => ?_⟩, ⟨hgr.os, hgr.tape, hgr.output, hgr.size, fun b hb hn => hgr.block b hb (fun e => hn (by rw [HG.out b e.symm]; simp))⟩⟩
        · rw [List.flatMap_append]
          simpa using ho
        · rcases hcase with h1 | h1
          · exact .inl (HG.out g (by rw [← h1, hg]))
          · rw [hg] at h1; injection h1 with h1; exact .inr (by have := hE'.size; omega)
      · exact ⟨owns_ext (Ms := []) ho.1 hE (by simp), ho.2⟩
      obtain ⟨o7, c7, rfl⟩ := hv
      simp only [Act.put, List.setIfInBounds_toArray, List.set_cons_succ, List.set_cons_zero]
      intro W9 hE hF
      have hE' : Ext [gx] W W9 := hE
      obtain ⟨ho9, hg9⟩ := hF _ (List.Mem.head _)
      have hwk9 : W9.heap[B + 1 + 1]? = some (.cells (wwcells l tv nv (.slice (vo) (0) vc) (B + 1)) 77 (0, 0)) := (hE'.block _ p6 (by simpa using z1')).trans HV8.out.1
      obtain ⟨c9, f9, l9⟩ := cells_of_block hwk9
      have HE9 := Lib.hid hE'
      have HO9 := Lib.hid (And.intro ho9 (And.intro hg9 hwk9))
      clear hE hF hE' ho9 hg9 p1 p2 p4 p5 p7 p8 hwk9
      gi_wp2_with fail
      obtain ⟨v', hv'⟩ : ∃ v', Value.slice o7 (0 + 1) c7 = v' := ⟨_, rfl⟩
      rw [hv'] at HO9 ⊢
      have hszX : (W9.setCell ⟨B + 1 + 1, 9, none⟩ v').heap.size = W9.heap.size := by simp [World.setCell]
      have hs9 := HE9.out.size
      have hks : ∀ b, b < W.heap.size → b ≠ gx → b ≠ B + 1 + 1 → (W9.setCell ⟨B + 1 + 1, 9, none⟩ v').heap[b]? = W.heap[b]? := fun b hb h1 h2 =>
        (Below.heap_setCell _ _ _ _ h2).trans (HE9.out.block b hb (by simpa using h1))
      have hk7 : ∀ b, b < W7.heap.size → b ≠ gx → b ≠ B + 1 + 1 → (W9.setCell ⟨B + 1 + 1, 9, none⟩ v').heap[b]? = W7.heap[b]? := fun b hb h1 h2 => (hks b (by omega) h1 h2).trans (HE8.out.block b hb (by simp))
      have hFB : FrB w Os Ms (W9.setCell ⟨B + 1 + 1, 9, none⟩ v') := HF7.out.own (HF7.out.ext.trans ⟨HE9.out.os.trans HE8.out.os, HE9.out.tape.trans HE8.out.tape, HE9.out.output.trans HE8.out.output, by rw [hszX]; omega, fun b hb => (Below.heap_setCell _ _ _ _ (by show b ≠ B + 1 + 1; omega)).trans ((HE9.out.block b (by have := HF7.out.ext.size; omega) (by simp; omega)).trans (HE8.out.block b (by have := HF7.out.ext.size; omega) (by simp)))⟩) (by rw [hszX]; omega)
      have hlen1 : (([]) ++ [ys]).length = 0 + 1 := by simp
      refine ⟨⟨?_, ?_, fun m hm h0 hml => ?_, by rw [hszX]; omega⟩, hFB, ?_⟩
      · exact (hk7 _ (by have := (hap _ (hin (w4.heap.size + 1) (by omega) (by omega))).2; omega) (by omega) (by omega)).trans HK7.out.2.1
      · exact (hk7 _ (by have := (hap _ (hin w4.heap.size (by omega) (by omega))).2; omega) (by omega) (by omega)).trans HK7.out.2.2
      · exact (hk7 m (HF7.out.bnd m hm) (fun e => hgx3 (e ▸ hm)) (fun e => (hap (B + 1 + 1) (hin _ (by omega) (by omega))).1 (e ▸ hm))).trans (HK7.out.1 m hm h0 hml)
      rw [HSU.out, HDD.out]
      refine ⟨?_, ?_, ⟨v', set_block HO9.out.2.2 _, hlen1.symm ▸ owns_keep HO9.out.1 fun g hg => Below.heap_setCell _ _ _ _ (by have := (owns_ge HO9.out.1 g hg).1; show g ≠ B + 1 + 1; omega), fun g hg => ⟨fun hm => ?_, by rw [hszX]; exact (owns_ge HO9.out.1 g hg).2⟩⟩, ?_, ?_⟩
      · exact (hks _ (by have := (hap _ (hin B (by omega) (by omega))).2; omega) (by omega) (by omega)).trans HP8.out.b0
      · exact (hks _ (by have := (hap _ (hin (B + 1) (by omega) (by omega))).2; omega) (by omega) (by omega)).trans HP8.out.tab
      · rcases HO9.out.2.1 g hg with h1 | h1
        · exact hgx3 (h1 ▸ hm)
        · have := HF7.out.bnd g hm; omega
      · exact (hks _ (by have := (hap _ (hin (B + 3) (by omega) (by omega))).2; omega) (by omega) (by omega)).trans HP8.out.ptr
      · exact (hks _ (by have := (hap _ (hin (B + 4) (by omega) (by omega))).2; omega) (by omega) (by omega)).trans HP8.out.b4
    · have hz3 := H3.out z (by simp)
      obtain ⟨gb, gc, hvv, hgb, hglt, hrng⟩ := owns_last (A := A) (z := z) (by simpa using HV.out.2.1) (fun x hx => H3.out x (by simp [hx])) hz3
      have hcap : vo = some ⟨gb, 0, none⟩ := by simp at hvv; exact hvv.1
      subst hcap
      have hzl : (intCells z).length = 3 := by simp [intCells, hz3]
      (try simp only [List.length_append, List.length_cons, List.length_nil, Nat.zero_add] at c2)
      (try simp only [List.length_append, List.length_cons, List.length_nil, Nat.zero_add] at HV)
      (try simp only [List.length_append, List.length_cons, List.length_nil, Nat.zero_add] at HVO)
      (try simp only [List.length_append, List.length_cons, List.length_nil, Nat.zero_add] at hlk)
      have hAI : ((A.length : Int) + 1 == 0) = false := by simp; omega
      have hA0 : ¬ ((A.length : Int) + 1 = 0) := by omega
      have hA1 : ((A.length : Int) + 1).toNat = A.length + 1 := by omega
      have hAm : (A.length : Int) + 1 - 1 = A.length := by omega
      have hy3 : ys.length = 3 := HYS.out.2
      rcases hq : (z == ys) with _ | _
      · have HDD : Hid (snocD (A ++ [z]) ys = (A ++ [z]) ++ [ys]) := Lib.hid (by
          unfold snocD
          rw [if_neg]
          simp only [List.getLast?_append, List.getLast?_singleton]
          intro e
          simp at e
          subst e; simp at hq)
        refine wpIn_region_rgR 22 [] none [] (by kernel_rfl) (by kernel_rfl) (by kernel_rfl) ?_
        simp only [List.take_succ_cons, List.take_zero, List.drop_succ_cons, List.drop_zero]
        repeat (first | (refine tree_det (by rfl) _ (by rfl) (fun W hW => by go_simp; (try simp (disch := omega) only [IntWalk.i64_in]); try rfl) ?_; simp only [Act.put, List.setIfInBounds_toArray, List.set_cons_succ, List.set_cons_zero]) | (refine tree_skip (by rfl) (by rfl) ?_; simp only [Act.put, List.setIfInBounds_toArray, List.set_cons_succ, List.set_cons_zero]))
        refine tree_det (by rfl) (.pointer (some ⟨gb, A.length * 3, none⟩)) (by rfl) (fun W hW => by go_simp; (try simp (disch := omega) only [IntWalk.i64_in]); (try rw [if_pos (by omega)]); (try simp); (try (intro hx; exfalso; omega))) ?_
        simp only [Act.put, List.setIfInBounds_toArray, List.set_cons_succ, List.set_cons_zero]
        refine tree_det (by rfl) (.agg (intCells z).toArray) (by rfl) (fun W hW => exec_load_mid 79 _ (by rfl) gb (A.length * 3) (by rfl) (intCells z) _ (fun j u hj => (hW gb _ hglt (by simp)).trans (hrng j u hj)) Try.underlying79 rfl (by rw [hzl]; kernel_rfl)) ?_
        simp only [Act.put, List.setIfInBounds_toArray, List.set_cons_succ, List.set_cons_zero]
        refine tree_det (by rfl) (.agg #[iv y0, iv y1, iv y2]) (by rfl) (fun W hW => by go_simp; try rfl) ?_
        simp only [Act.put, List.setIfInBounds_toArray, List.set_cons_succ, List.set_cons_zero]
        refine tree_det (by rfl) (.bool true) (by rfl) (fun W hW => (exec_neq_ints 79 3 _ 3 _ _ (by rfl) Try.underlying79 Try.underlying3 (by intro w; go_simp) (by kernel_rfl) z [y0, y1, y2] (by rfl) (by rfl) hz3 (by rfl)).trans (by rw [HYS.out.1] at hq; rw [hq]; rfl)) ?_
        simp only [Act.put, List.setIfInBounds_toArray, List.set_cons_succ, List.set_cons_zero]
        repeat (first | (refine tree_det (by rfl) _ (by rfl) (fun W hW => by go_simp; (try simp (disch := omega) only [IntWalk.i64_in]); try rfl) ?_; simp only [Act.put, List.setIfInBounds_toArray, List.set_cons_succ, List.set_cons_zero]) | (refine tree_skip (by rfl) (by rfl) ?_; simp only [Act.put, List.setIfInBounds_toArray, List.set_cons_succ, List.set_cons_zero]))
        intro W hE hF
        obtain ⟨hc, hf⟩ := bcell hE.below
        have hzE := hE.size
        (try simp only [World.size_alloc] at hzE)
        have hE7' : Ext [] W7 W := hE
        have hP8 : WoSt B l tv nv (A ++ [z]) Ms W := HP7.out.kept hE7'.size (fun b h1 h2 => hE7'.block b (by have := (hap b (hin b h1 (by omega))).2; omega) (by simp)) (fun g h1 h2 h3 => hE7'.block g h2 (by simp)) (fun m hm => .inl hm)
        have hbt8 := (hE7'.block _ (by omega) (by simp)).trans HBT.out
        obtain ⟨v8, hv81, hv82, hv83⟩ := hP8.work
        have hv8e : v8 = .slice ((some ⟨gb, 0, none⟩)) ((A.length + 1)) vc := by
          have h4 := (hE7'.block _ q2 (by simp)).trans HV.out.1
          rw [hv81] at h4
          simp only [Option.some.injEq, Obj.cells.injEq, and_true, Array.mk.injEq, List.cons.injEq, true_and] at h4
          exact h4
        rw [hv8e] at hv81 hv82 hv83
        clear hv8e
        (try simp only [List.length_nil] at hv82)
        (try simp only [List.length_append, List.length_cons, List.length_nil, Nat.zero_add] at hv82)
        obtain ⟨p1, p2, p3⟩ := cells_of_block (show W.heap[B + 1 + 1 + 1]? = some (.cells #[.pointer (some ⟨B + 1 + 1, 0, none⟩)] 64 (0, 0)) from hP8.ptr)
        obtain ⟨p4, p5, p6⟩ := cells_of_block (show W.heap[B + 1 + 1]? = some (.cells (wwcells l tv nv (.slice ((some ⟨gb, 0, none⟩)) ((A.length + 1)) vc) (B + 1)) 77 (0, 0)) from hv81)
        obtain ⟨p7, p8, p9⟩ := cells_of_block hbt8
        have hs78 := hE7'.size
        have HP8 := Lib.hid hP8
        have HV8 := Lib.hid (And.intro hv81 (And.intro hv82 hv83))
        have HE8 := Lib.hid hE7'
        clear hE hF hc hf hE7' hP8 hv81 hv82 hv83 hbt8 c1 f1 q1 c2 f2 q2 c3 f3 q3 hzE
        obtain ⟨gx, hgx, hgx1, hgx2, hgx3, hgx4⟩ : ∃ gx, (∀ g, (Value.slice ((some ⟨gb, 0, none⟩)) ((A.length + 1)) vc).ownBlock = some g → g = gx) ∧ B + 7 ≤ gx ∧ gx < W.heap.size ∧ gx ∉ Ms ∧ gx ≠ w6.heap.size := by
          cases hob2 : (Value.slice ((some ⟨gb, 0, none⟩)) ((A.length + 1)) vc).ownBlock with
          | none => exact ⟨s0, (fun g hg => by cases hg), HS0.out.1, by omega, HS0.out.2.1, by omega⟩
          | some g =>
            have h1 := owns_ge HV8.out.2.1 g hob2
            have h2 := HV8.out.2.2 g hob2
            exact ⟨g, (fun g' hg => by cases hg; rfl), h1.1, h1.2, h2.1, fun e => by have := HVO.out g hob2; omega⟩
        have HG := Lib.hid hgx
        clear hgx
        have z1 : gx ≠ B + 1 + 1 := by omega
        have z2 : gx ≠ B + 1 + 1 + 1 := by omega
        have z1' : B + 1 + 1 ≠ gx := by omega
        have z2' : B + 1 + 1 + 1 ≠ gx := by omega
        have z3' : w6.heap.size ≠ gx := by omega
        gi_wp2_with fail
        refine wpIn_region_rgR 8 [gx] (some 7) [(6, Spec.slice W.heap.size #[iv y0, iv y1, iv y2] 79 1), (7, ⟨fun _ v => ∃ o c, v = .slice o ((A.length + 1) + 1) c, fun _ v Wx => Wx.ownsRow (B + 7) 79 3 v ((A.length + 1) + 1) (((A ++ [z]) ++ [ys]).flatMap intCells) ∧ (∀ g, v.ownBlock = some g → g = gx ∨ W.heap.size ≤ g)⟩)] (by kernel_rfl) (by kernel_rfl) (by kernel_rfl) ?_
        simp only [List.take_succ_cons, List.take_zero, List.drop_succ_cons, List.drop_zero]
        repeat (first | (refine tree_det (by rfl) _ (by rfl) (fun W hW => by go_simp; (try simp (disch := omega) only [IntWalk.i64_in]); try rfl) ?_; simp only [Act.put, List.setIfInBounds_toArray, List.set_cons_succ, List.set_cons_zero]) | (refine tree_skip (by rfl) (by rfl) ?_; simp only [Act.put, List.setIfInBounds_toArray, List.set_cons_succ, List.set_cons_zero]))
        refine tree_slice W.heap.size _ _ 1 (by rfl) (Nat.le_refl _) (by rfl) (by simpa using hgx2) (by simp) (fun W hW => by go_simp; try rfl) (fun b6 => ?_)
        simp only [Act.put, List.setIfInBounds_toArray, List.set_cons_succ, List.set_cons_zero]
        refine tree_some _ (by rfl) (by rfl) (by exact ⟨.slice none ((A.length + 1) + 1) 0, none, 0, rfl⟩) (fun Wa hE hF => ?_) (fun v Wa Wb ho hE => ?_) (fun v hv => ?_)
        · have hE' : Ext [] W Wa := hE
          obtain ⟨b', hb', hge, hcc⟩ := hF _ (List.Mem.head _) (by kernel_rfl)
          cases hb'
          have hown6 := owns_ext (Ms := []) HV8.out.2.1 hE' (by simp)
          have hsrc : SlAt 3 Wa (.slice (some ⟨b6, 0, none⟩) 1 1) 1 (intCells ys) := by
            rw [HYS.out.1]
            exact SlAt.of_block 3 1 hcc rfl (by decide)
          refine Does.mono (does_append_at tDues (by rfl) (by rfl) hown6 (by rfl) hsrc (one_ints _) (by omega) (by omega) (by have := hE'.size; omega)) ?_
          rintro v' Wc ⟨ho, hgr, hcase⟩
          refine ⟨owns_slice ho, ⟨?_, fun g hg => ?_⟩, ⟨hgr.os, hgr.tape, hgr.output, hgr.size, fun b hb hn => hgr.block b hb (fun e => hn (by rw [HG.out b e.symm]; simp))⟩⟩
          · rw [List.flatMap_append]
            simpa using ho
          · rcases hcase with h1 | h1
            · exact .inl (HG.out g (by rw [← h1, hg]))
            · rw [hg] at h1; injection h1 with h1; exact .inr (by have := hE'.size; omega)
        · exact ⟨owns_ext (Ms := []) ho.1 hE (by simp), ho.2⟩
        obtain ⟨o7, c7, rfl⟩ := hv
        simp only [Act.put, List.setIfInBounds_toArray, List.set_cons_succ, List.set_cons_zero]
        intro W9 hE hF
        have hE' : Ext [gx] W W9 := hE
        obtain ⟨ho9, hg9⟩ := hF _ (List.Mem.head _)
        have hwk9 : W9.heap[B + 1 + 1]? = some (.cells (wwcells l tv nv (.slice ((some ⟨gb, 0, none⟩)) ((A.length + 1)) vc) (B + 1)) 77 (0, 0)) := (hE'.block _ p6 (by simpa using z1')).trans HV8.out.1
        obtain ⟨c9, f9, l9⟩ := cells_of_block hwk9
        have HE9 := Lib.hid hE'
        have HO9 := Lib.hid (And.intro ho9 (And.intro hg9 hwk9))
        clear hE hF hE' ho9 hg9 p1 p2 p4 p5 p7 p8 hwk9
        gi_wp2_with fail
        obtain ⟨v', hv'⟩ : ∃ v', Value.slice o7 ((A.length + 1) + 1) c7 = v' := ⟨_, rfl⟩
        rw [hv'] at HO9 ⊢
        have hszX : (W9.setCell ⟨B + 1 + 1, 9, none⟩ v').heap.size = W9.heap.size := by simp [World.setCell]
        have hs9 := HE9.out.size
        have hks : ∀ b, b < W.heap.size → b ≠ gx → b ≠ B + 1 + 1 → (W9.setCell ⟨B + 1 + 1, 9, none⟩ v').heap[b]? = W.heap[b]? := fun b hb h1 h2 =>
          (Below.heap_setCell _ _ _ _ h2).trans (HE9.out.block b hb (by simpa using h1))
        have hk7 : ∀ b, b < W7.heap.size → b ≠ gx → b ≠ B + 1 + 1 → (W9.setCell ⟨B + 1 + 1, 9, none⟩ v').heap[b]? = W7.heap[b]? := fun b hb h1 h2 => (hks b (by omega) h1 h2).trans (HE8.out.block b hb (by simp))
        have hFB : FrB w Os Ms (W9.setCell ⟨B + 1 + 1, 9, none⟩ v') := HF7.out.own (HF7.out.ext.trans ⟨HE9.out.os.trans HE8.out.os, HE9.out.tape.trans HE8.out.tape, HE9.out.output.trans HE8.out.output, by rw [hszX]; omega, fun b hb => (Below.heap_setCell _ _ _ _ (by show b ≠ B + 1 + 1; omega)).trans ((HE9.out.block b (by have := HF7.out.ext.size; omega) (by simp; omega)).trans (HE8.out.block b (by have := HF7.out.ext.size; omega) (by simp)))⟩) (by rw [hszX]; omega)
        have hlen1 : ((A ++ [z]) ++ [ys]).length = (A.length + 1) + 1 := by simp
        refine ⟨⟨?_, ?_, fun m hm h0 hml => ?_, by rw [hszX]; omega⟩, hFB, ?_⟩
        · exact (hk7 _ (by have := (hap _ (hin (w4.heap.size + 1) (by omega) (by omega))).2; omega) (by omega) (by omega)).trans HK7.out.2.1
        · exact (hk7 _ (by have := (hap _ (hin w4.heap.size (by omega) (by omega))).2; omega) (by omega) (by omega)).trans HK7.out.2.2
        · exact (hk7 m (HF7.out.bnd m hm) (fun e => hgx3 (e ▸ hm)) (fun e => (hap (B + 1 + 1) (hin _ (by omega) (by omega))).1 (e ▸ hm))).trans (HK7.out.1 m hm h0 hml)
        rw [HSU.out, HDD.out]
        refine ⟨?_, ?_, ⟨v', set_block HO9.out.2.2 _, hlen1.symm ▸ owns_keep HO9.out.1 fun g hg => Below.heap_setCell _ _ _ _ (by have := (owns_ge HO9.out.1 g hg).1; show g ≠ B + 1 + 1; omega), fun g hg => ⟨fun hm => ?_, by rw [hszX]; exact (owns_ge HO9.out.1 g hg).2⟩⟩, ?_, ?_⟩
        · exact (hks _ (by have := (hap _ (hin B (by omega) (by omega))).2; omega) (by omega) (by omega)).trans HP8.out.b0
        · exact (hks _ (by have := (hap _ (hin (B + 1) (by omega) (by omega))).2; omega) (by omega) (by omega)).trans HP8.out.tab
        · rcases HO9.out.2.1 g hg with h1 | h1
          · exact hgx3 (h1 ▸ hm)
          · have := HF7.out.bnd g hm; omega
        · exact (hks _ (by have := (hap _ (hin (B + 3) (by omega) (by omega))).2; omega) (by omega) (by omega)).trans HP8.out.ptr
        · exact (hks _ (by have := (hap _ (hin (B + 4) (by omega) (by omega))).2; omega) (by omega) (by omega)).trans HP8.out.b4
      · have HDD : Hid (snocD (A ++ [z]) ys = A ++ [z]) := Lib.hid (by
          unfold snocD
          rw [if_pos]
          simp only [List.getLast?_append, List.getLast?_singleton]
          have : z = ys := by simpa using hq
          rw [this]
          rfl)
        refine wpIn_region_rgR 22 [] none [] (by kernel_rfl) (by kernel_rfl) (by kernel_rfl) ?_
        simp only [List.take_succ_cons, List.take_zero, List.drop_succ_cons, List.drop_zero]
        repeat (first | (refine tree_det (by rfl) _ (by rfl) (fun W hW => by go_simp; (try simp (disch := omega) only [IntWalk.i64_in]); try rfl) ?_; simp only [Act.put, List.setIfInBounds_toArray, List.set_cons_succ, List.set_cons_zero]) | (refine tree_skip (by rfl) (by rfl) ?_; simp only [Act.put, List.setIfInBounds_toArray, List.set_cons_succ, List.set_cons_zero]))
        refine tree_det (by rfl) (.pointer (some ⟨gb, A.length * 3, none⟩)) (by rfl) (fun W hW => by go_simp; (try simp (disch := omega) only [IntWalk.i64_in]); (try rw [if_pos (by omega)]); (try simp); (try (intro hx; exfalso; omega))) ?_
        simp only [Act.put, List.setIfInBounds_toArray, List.set_cons_succ, List.set_cons_zero]
        refine tree_det (by rfl) (.agg (intCells z).toArray) (by rfl) (fun W hW => exec_load_mid 79 _ (by rfl) gb (A.length * 3) (by rfl) (intCells z) _ (fun j u hj => (hW gb _ hglt (by simp)).trans (hrng j u hj)) Try.underlying79 rfl (by rw [hzl]; kernel_rfl)) ?_
        simp only [Act.put, List.setIfInBounds_toArray, List.set_cons_succ, List.set_cons_zero]
        refine tree_det (by rfl) (.agg #[iv y0, iv y1, iv y2]) (by rfl) (fun W hW => by go_simp; try rfl) ?_
        simp only [Act.put, List.setIfInBounds_toArray, List.set_cons_succ, List.set_cons_zero]
        refine tree_det (by rfl) (.bool false) (by rfl) (fun W hW => (exec_neq_ints 79 3 _ 3 _ _ (by rfl) Try.underlying79 Try.underlying3 (by intro w; go_simp) (by kernel_rfl) z [y0, y1, y2] (by rfl) (by rfl) hz3 (by rfl)).trans (by rw [HYS.out.1] at hq; rw [hq]; rfl)) ?_
        simp only [Act.put, List.setIfInBounds_toArray, List.set_cons_succ, List.set_cons_zero]
        repeat (first | (refine tree_det (by rfl) _ (by rfl) (fun W hW => by go_simp; (try simp (disch := omega) only [IntWalk.i64_in]); try rfl) ?_; simp only [Act.put, List.setIfInBounds_toArray, List.set_cons_succ, List.set_cons_zero]) | (refine tree_skip (by rfl) (by rfl) ?_; simp only [Act.put, List.setIfInBounds_toArray, List.set_cons_succ, List.set_cons_zero]))
        intro W hE hF
        obtain ⟨hc, hf⟩ := bcell hE.below
        have hzE := hE.size
        (try simp only [World.size_alloc] at hzE)
        have hE7' : Ext [] W7 W := hE
        have HE8 := Lib.hid hE7'
        clear hE hF hc hf hE7'
        gi_wp2_with fail
        have hs8 := HE8.out.size
        refine ⟨⟨?_, ?_, fun m hm h0 hml => ?_, by omega⟩, (HF7.out.step (HE8.out.more (by simp)) (fun m hm => .inl hm)).1, ?_⟩
        · exact (HE8.out.block _ (Array.getElem?_eq_some_iff.1 HK7.out.2.1).1 (by simp)).trans HK7.out.2.1
        · exact (HE8.out.block _ (Array.getElem?_eq_some_iff.1 HK7.out.2.2).1 (by simp)).trans HK7.out.2.2
        · exact (HE8.out.block m (by omega) (by simp)).trans (HK7.out.1 m hm h0 hml)
        · rw [HSU.out, HDD.out]
          exact HP7.out.kept HE8.out.size (fun b h1 h2 => HE8.out.block b (by have := (hap b (hin b h1 (by omega))).2; omega) (by simp)) (fun g h1 h2 h3 => HE8.out.block g h2 (by simp)) (fun m hm => .inl hm)
  case hdone =>
    rintro Ms W ⟨hF, hP⟩ hD hlt
    obtain ⟨v, hv1, hv2, hv3⟩ := hP.work
    obtain ⟨c1, f1, l1⟩ := cells_of_block (show W.heap[B + 1 + 1 + 1]? = some (.cells #[.pointer (some ⟨B + 1 + 1, 0, none⟩)] 64 (0, 0)) from hP.ptr)
    have hFE := (hF.put (Obj.deferred none) (r := w4.heap.size) (by omega)).ext
    have HX := Lib.hid (And.intro hFE (And.intro hv1 (And.intro hv2 hP.tab)))
    clear hF hP hv1 hv2 hv3 hFE
    gi_wp2_with fail
    refine ⟨by simp, .inl ⟨_, _, rfl, run_takeDeferred hD, ?_⟩⟩
    refine ⟨.pointer (some ⟨B + 1 + 1, 0, none⟩), by simp [results, Try.results49, go_sem], B + 1 + 1, B + 1, v, rfl, by omega, by omega, ?_, ⟨?_, HT'.out _ HX.out.1, HN'.out _ HX.out.1, ?_⟩, HX.out.1⟩
    · exact (World.putObj_heap_other (by omega)).trans HX.out.2.2.2
    · exact (World.putObj_heap_other (by omega)).trans HX.out.2.1
    · exact SlAt.of_owns (owns_keep HX.out.2.2.1 fun g hg => World.putObj_heap_other (by have := (owns_ge HX.out.2.2.1 g hg).1; omega))
  case hstop => rintro cd Ms W h; exact h.elim

end Go.Proofs.Ytechgmnkcijahaa

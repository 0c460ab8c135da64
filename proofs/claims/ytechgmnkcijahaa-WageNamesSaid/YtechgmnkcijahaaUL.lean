/-
  The law's examples, evaluated.
  The law's examples: between, four, wrong, two, same.
  The law's first examples: awake.
-/
import Derived.WalkKit
import Derived.WalkLawsBesides
import Derived.WalkSpells
import Derived.Outline
import Derived.Handy
import Derived.KernelRfl
import Derived.Lib.Hide
import Derived.Test.YtechgmnkcijahaaUD
import Derived.Test.YtechgmnkcijahaaUH
import Derived.Test.YtechgmnkcijahaaUJ
import Derived.Deep.Cut
import Derived.Test.YtechgmnkcijahaaGA
namespace Go.Proofs.Ytechgmnkcijahaa
open Go.RowKit Go.RG Go.SL Go.Shelf Cou Go.TB
set_option maxHeartbeats 400000
set_option maxRecDepth 10000

def fourF : FieldD := { rows := 4, weeders := 2, left := (0, 0), tallies := [(0, 0, 2, (2, 3)), (1, 2, 3, (1, 2))] }
def fourL (ns : List Rdg) : LedgerD := { field := fourF, rate := 10, box := (20, 22), notes := (0, (10, 15)) :: ns }
abbrev wrongN : Rdg := (1, (13, 20))

theorem ev_due : dueErr (fourL []) [0, 0, 1, 0] = 0 ∧ dueV (fourL []) [0, 0, 1, 0] = [30, 10] := by decide +kernel
theorem ev_asked : askedErr (fourL []) true = 0 := by decide +kernel
theorem ev_paid : bndL partP (fourL []) (duesT (fourL [])) = [(10, 15), (5, 12)] := by decide +kernel
theorem ev_owed : bndL partO (fourL []) (duesT (fourL [])) = [(5, 20), (0, 15)] := by decide +kernel
theorem ev_safe : askedErr (fourL []) (inB 3 0 2000) = 0 ∧ safeV (fourL []) 3 = [3, 0] := by decide +kernel
theorem ev_share : shareErr (fourL []) 7 = 0 ∧ shrL (fourL []) 7 (duesT (fourL [])) = [(4, 5), (2, 3)] := by decide +kernel
theorem ev_settle : faultW (fourL []) = 0 ∧ settleF fourF = [0, 1, 2, 3] := by decide +kernel
theorem ev_first : faultW (fourL [wrongN]) = 0 ∧ firstWv (fourL [wrongN]) = 1 ∧ firstWe (fourL [wrongN]) = 0 := by decide +kernel
theorem ev_leave : leaveW (fourL [wrongN]) = [0] := by decide +kernel
end Go.Proofs.Ytechgmnkcijahaa

namespace Go.Proofs.Ytechgmnkcijahaa
open Go.RowKit Go.RG Go.SL Go.Shelf Cou Go.TB
set_option maxHeartbeats 400000
set_option maxRecDepth 10000

theorem ext_sets (b : Nat) : ∀ (l : List (Nat × Value)) (W : World), Ext [b] W (l.foldl (fun W p => W.setCell ⟨b, p.1, none⟩ p.2) W)
  | [], _ => Ext.refl _ _
  | p :: l, W => (ext_set W ⟨b, p.1, none⟩ p.2).trans (ext_sets b l _)

theorem between_any (a b : Int) (w : World) : Calls Try.prog 8 #[iv a, iv b] w (PV (rv (a, b)) w) := by
  go_enter Try.func8, Try.ntmps8
  go_wp2_with fail
  go_returns
  exact ⟨by simp, (by repeat (first | exact Below.refl _ _ | assumption | refine bgo ?_ (by assumption) | refine bgoAlloc ?_ _ | refine bgoDrew ?_ | refine bgoSet ?_ (by simp; omega) _))⟩

theorem wrong_any (w : World) : Calls Try.prog 17 #[] w (PV (xv wrongN) w) := by
  go_enter Try.func17, Try.ntmps17
  go_wp2_with fail
  refine (between_any 13 20 _).mono ?_
  rintro e W1 ⟨rfl, hb⟩
  have hk := (hb.block w.heap.size (by simp)).trans (heap_new0 w _)
  obtain ⟨c0, f0, l0⟩ := cells_of_block hk
  have HB := Lib.hid (And.intro (show Below w.heap.size w W1 from (by repeat (first | exact Below.refl _ _ | assumption | refine bgo ?_ (by assumption) | refine bgoAlloc ?_ _ | refine bgoDrew ?_ | refine bgoSet ?_ (by simp; omega) _))) hk)
  clear hb hk
  go_wp2_with fail
  have hset := set_block (o := 2) (set_block (o := 1) (set_block (o := 0) HB.out.2 (iv 1)) (iv 13)) (iv 20)
  have hB2 : Below w.heap.size w (((W1.setCell ⟨w.heap.size, 0, none⟩ (iv 1)).setCell ⟨w.heap.size, 1, none⟩ (iv 13)).setCell ⟨w.heap.size, 2, none⟩ (iv 20)) := bgoSet (bgoSet (bgoSet HB.out.1 (by simp) _) (by simp) _) (by simp) _
  generalize ((W1.setCell ⟨w.heap.size, 0, none⟩ (iv 1)).setCell ⟨w.heap.size, 1, none⟩ (iv 13)).setCell ⟨w.heap.size, 2, none⟩ (iv 20) = W2 at *
  clear c0 f0
  have hc := (cells_of_block (show W2.heap[w.heap.size]? = some (.cells #[iv 1, iv 13, iv 20] 52 (0, 0)) from hset)).1
  (try simp only [Exit.inBlock, Exit.then])
  refine bodyPost_ret (v := xv wrongN) (by simp [results, Try.results17, go_sem, hc]; try omega) rfl ?_
  exact ⟨rfl, hB2⟩

theorem two_any (rs : List Rng) (v : Value) (a b : Rng) (w : World) (h : PairsAt w v rs) (hrs : rs = [a, b]) : Calls Try.prog 10 #[v, rv a, rv b] w (PV (.bool true) w) := by
  subst hrs
  obtain ⟨o, c, rfl⟩ := h.open
  obtain ⟨g, off, rfl, hg, p0, p1⟩ := PairsAt.cell h (k := 0) (by simp)
  obtain ⟨g', off', e', _, p2, p3⟩ := PairsAt.cell h (k := 1) (by simp)
  cases e'
  simp only [List.getElem_cons_zero, List.getElem_cons_succ, Nat.zero_mul, Nat.one_mul, Nat.add_zero] at p0 p1 p2 p3
  obtain ⟨a0, a1⟩ := a
  obtain ⟨b0, b1⟩ := b
  simp only [List.length_cons, List.length_nil, Nat.reduceAdd]
  clear h
  go_enter Try.func10, Try.ntmps10
  go_wp2_with fail
  go_region
  all_goals go_wp2_with fail
  all_goals go_returns
  all_goals exact ⟨by simp, (by repeat (first | exact Below.refl _ _ | assumption | refine bgo ?_ (by assumption) | refine bgoAlloc ?_ _ | refine bgoDrew ?_ | refine bgoSet ?_ (by simp; omega) _))⟩
def sameTo (l m : List Int) (k : Nat) : Bool := (List.range k).all fun i => l.getD i 0 == m.getD i 0
theorem sameTo_succ (l m : List Int) (k : Nat) : sameTo l m (k + 1) = (sameTo l m k && l.getD k 0 == m.getD k 0) := by
  unfold sameTo; rw [List.range_succ, List.all_append]; simp
theorem same_iff {l m : List Int} (h : l.length = m.length) : (l == m) = sameTo l m l.length := by
  rw [Bool.eq_iff_iff, beq_iff_eq]
  unfold sameTo
  rw [List.all_eq_true]
  constructor
  · rintro rfl x _; simp
  · intro hx
    refine List.ext_getElem h fun i h1 h2 => ?_
    have := hx i (List.mem_range.2 h1)
    simpa [List.getD, h1, h2] using this
theorem same_bad {l m : List Int} (h : l.length = m.length) {k : Nat} (hk : k < l.length) (hb : (l.getD k 0 == m.getD k 0) = false) : (l == m) = false := by
  rw [same_iff h]
  unfold sameTo
  rw [List.all_eq_false]
  exact ⟨k, List.mem_range.2 hk, by rw [hb]; simp⟩

theorem same_any (l m : List Int) (v u : Value) (w : World) (h : IntsAt w v l) (k : IntsAt w u m) : Calls Try.prog 11 #[v, u] w (PV (.bool (l == m)) w) := by
  obtain ⟨o1, q1, rfl⟩ := h.open
  obtain ⟨o2, q2, rfl⟩ := k.open
  have hl1 := h.len
  have hl2 := k.len
  have HH := Lib.hid (And.intro h k)
  clear h k
  by_cases hlm : l.length = m.length
  case neg =>
    have HV := Lib.hid (show (l == m) = false from by rw [beq_eq_false_iff_ne]; rintro rfl; exact hlm rfl)
    have hne : ((l.length : Int) != (m.length : Int)) = true := by simp; omega
    clear hlm
    go_enter Try.func11, Try.ntmps11
    go_wp2_with fail
    go_returns
    exact ⟨by rw [HV.out]; simp, Below.refl _ _⟩
  have hne : ((l.length : Int) != (m.length : Int)) = false := by rw [hlm]; simp
  have HLM := Lib.hid hlm
  clear hlm
  go_enter Try.func11, Try.ntmps11
  go_wp2_with fail
  go_loopw [5] (fun i wr => ∃ k : Nat, k ≤ l.length ∧ i = .int .i64 k ∧ sameTo l m k = true ∧ Below w.heap.size w wr) (fun i _ => l.length - (intOf i).toNat)
  case atStart => exact ⟨0, Nat.zero_le _, rfl, rfl, Below.refl _ _⟩
  case round =>
    obtain ⟨k, hk, rfl, hok, hB⟩ := hrel
    by_cases hlt : k < l.length
    · have hltm : k < m.length := by have := HLM.out; omega
      obtain ⟨g1, f1, e1, r1, c1⟩ := IntsAt.cell (HH.out.1.below hB (Nat.le_refl _)) hlt
      obtain ⟨g2, f2, e2, r2, c2⟩ := IntsAt.cell (HH.out.2.below hB (Nat.le_refl _)) hltm
      have hsu := sameTo_succ l m k
      have hbad := fun hb => same_bad HLM.out (k := k) hlt hb
      rw [hok, Bool.true_and, show l.getD k 0 = l[k] from by simp [List.getD, hlt], show m.getD k 0 = m[k] from by simp [List.getD, hltm]] at hsu
      rw [show l.getD k 0 = l[k] from by simp [List.getD, hlt], show m.getD k 0 = m[k] from by simp [List.getD, hltm]] at hbad
      generalize l[k] = x at *
      generalize m[k] = y at *
      have HX := Lib.hid (And.intro hsu (And.intro hbad hB))
      have hltI : (k : Int) < l.length := by omega
      have hltmI : (k : Int) < m.length := by omega
      cases e1
      cases e2
      clear hsu hbad hok hB hltm
      by_cases hxy : x = y
      · subst hxy
        have hnb : (x != x) = false := by simp
        go_wp2_with fail
        go_region
        all_goals go_wp2_with fail
        all_goals go_roundw
        all_goals first
          | exact ⟨k + 1, by omega, by go_num, by rw [HX.out.1]; simp, bgoDrew HX.out.2.2⟩
          | (simp [intOf]; omega)
      · have hnb : (x != y) = true := by simpa using hxy
        have hxb : (x == y) = false := by simpa using hxy
        have HR := Lib.hid (HX.out.2.1 hxb)
        clear hxb
        go_wp2_with fail
        go_region
        all_goals go_wp2_with fail
        all_goals go_returns
        all_goals exact ⟨by rw [HR.out]; simp, bgoDrew HX.out.2.2⟩
    · have hkl : k = l.length := by omega
      rw [hkl] at hok
      have HR := Lib.hid (And.intro (show (l == m) = true from by rw [same_iff HLM.out]; exact hok) hB)
      clear hok hB
      go_wp2_with fail
      go_returns
      exact ⟨by rw [HR.out.1]; simp, HR.out.2⟩

def PLed (l : LedgerD) (w : World) (e : Ending) (w' : World) : Prop := ∃ tv nv, e = .returned (lv l tv nv) ∧ TalliesAt w' tv l.field.tallies ∧ TriplesAt w' nv l.notes ∧ Below w.heap.size w w'

theorem four_any (ns : List Rdg) (nv : Value) (hn : ns.length ≤ 5) (w : World) (h : TriplesAt w nv ns) : Calls Try.prog 5 #[nv] w (PLed (fourL ns) w) := by
  obtain ⟨no, nc, rfl⟩ := h.open
  have HH := Lib.hid h
  clear h
  go_enter Try.func5, Try.ntmps5
  go_upto_region 2 with (fail)
  refine gworld fun W1 hW1 => ?_
  have hB1 : Below w.heap.size w W1 := by rw [hW1]; exact (by repeat (first | exact Below.refl _ _ | assumption | refine bgo ?_ (by assumption) | refine bgoAlloc ?_ _ | refine bgoDrew ?_ | refine bgoSet ?_ (by simp; omega) _))
  have k0 : W1.heap[w.heap.size]? = some (.cells #[iv 0, iv 0, iv 0, iv 0, .slice none 0 0, iv 0, iv 0, iv 0, .slice none 0 0] 34 (0, 0)) := by
    rw [hW1]
    exact (Below.heap_alloc _ _ _ (by simp; omega)).trans ((Below.heap_alloc _ _ _ (by simp)).trans (heap_new0 _ _))
  have k1 : W1.heap[w.heap.size + 1]? = some (.cells (tlyCells fourF.tallies).toArray 55 (0, 0)) := by
    rw [hW1]
    exact (Below.heap_alloc _ _ _ (by simp)).trans (heap_new1 _ _ _)
  have k2 : W1.heap[w.heap.size + 2]? = some (.cells #[iv 4, iv 2, iv 0, iv 0, .slice (some ⟨w.heap.size + 1, 0, none⟩) 2 2] 30 (0, 0)) := by
    rw [hW1]
    exact heap_new2 _ _ _ _
  have HT := Lib.hid (show TalliesAt W1 (.slice (some ⟨w.heap.size + 1, 0, none⟩) 2 2) fourF.tallies from SlAt.of_block 5 2 k1 rfl (by simp [maxLen]))
  have HH1 := Lib.hid (HH.out.below hB1 (Nat.le_refl _))
  have HB1 := Lib.hid (And.intro hB1 k0)
  obtain ⟨c0, f0, l0⟩ := cells_of_block k0
  obtain ⟨c2, f2, l2⟩ := cells_of_block k2
  clear hW1 hB1 k0 k1 k2
  refine wp_region_rg 8 [] none [(1, Spec.val (rv (20, 22))), (2, Spec.val (rv (10, 15))), (4, Spec.slice W1.heap.size #[iv 0, iv 10, iv 15] 52 1), (6, ⟨fun _ v => ∃ o c, v = .slice o (1 + ns.length) c, fun _ v Wx => Wx.ownsRow W1.heap.size 52 3 v (1 + ns.length) (tripleCells ((0, (10, 15)) :: ns))⟩)] (by as_aux_lemma => kernel_rfl) (by as_aux_lemma => kernel_rfl) ?_
  simp only [List.take_succ_cons, List.take_zero, List.drop_succ_cons, List.drop_zero]
  repeat (first | (refine tree_det (by rfl) _ (by rfl) (fun W hW => by go_simp; (try simp (disch := omega) only [IntWalk.i64_in]); try rfl) ?_; simp only [Act.put, List.setIfInBounds_toArray, List.set_cons_succ, List.set_cons_zero]) | (refine tree_skip (by rfl) (by rfl) ?_; simp only [Act.put, List.setIfInBounds_toArray, List.set_cons_succ, List.set_cons_zero]))
  refine tree_val _ (by rfl) (by rfl) 8 _ (fun W hW => by go_simp; try rfl) (fun W hE hF => by exact between_any 20 22 W) ?_
  simp only [Act.put, List.setIfInBounds_toArray, List.set_cons_succ, List.set_cons_zero]
  repeat (first | (refine tree_det (by rfl) _ (by rfl) (fun W hW => by go_simp; (try simp (disch := omega) only [IntWalk.i64_in]); try rfl) ?_; simp only [Act.put, List.setIfInBounds_toArray, List.set_cons_succ, List.set_cons_zero]) | (refine tree_skip (by rfl) (by rfl) ?_; simp only [Act.put, List.setIfInBounds_toArray, List.set_cons_succ, List.set_cons_zero]))
  refine tree_val _ (by rfl) (by rfl) 8 _ (fun W hW => by go_simp; try rfl) (fun W hE hF => by exact between_any 10 15 W) ?_
  simp only [Act.put, List.setIfInBounds_toArray, List.set_cons_succ, List.set_cons_zero]
  repeat (first | (refine tree_det (by rfl) _ (by rfl) (fun W hW => by go_simp; (try simp (disch := omega) only [IntWalk.i64_in]); try rfl) ?_; simp only [Act.put, List.setIfInBounds_toArray, List.set_cons_succ, List.set_cons_zero]) | (refine tree_skip (by rfl) (by rfl) ?_; simp only [Act.put, List.setIfInBounds_toArray, List.set_cons_succ, List.set_cons_zero]))
  refine tree_slice W1.heap.size _ _ 1 (by rfl) (Nat.le_refl _) (by rfl) (by simp) (by simp) (fun W hW => by go_simp; try rfl) (fun b4 => ?_)
  simp only [Act.put, List.setIfInBounds_toArray, List.set_cons_succ, List.set_cons_zero]
  repeat (first | (refine tree_det (by rfl) _ (by rfl) (fun W hW => by go_simp; (try simp (disch := omega) only [IntWalk.i64_in]); try rfl) ?_; simp only [Act.put, List.setIfInBounds_toArray, List.set_cons_succ, List.set_cons_zero]) | (refine tree_skip (by rfl) (by rfl) ?_; simp only [Act.put, List.setIfInBounds_toArray, List.set_cons_succ, List.set_cons_zero]))
  refine tree_some _ (by rfl) (by rfl) (by exact ⟨.slice none (1 + ns.length) 0, none, 0, rfl⟩) (fun Wa hE hF => ?_) (fun v Wa Wb ho hE => owns_ext (Ms := []) ho (show Ext [] Wa Wb from hE) (by simp)) (fun v hv => ?_)
  · have hE' : Ext [] W1 Wa := hE
    obtain ⟨b', hb', hge, hcc⟩ := hF _ (List.Mem.head _) (by kernel_rfl)
    cases hb'
    refine Does.mono (does_append_full (cs := [iv 0, iv 10, iv 15]) tNotes (by rfl) (by rfl) hge hcc (by rfl) (by simp [maxLen]) (by rfl) (HH1.out.below hE'.below (Nat.le_refl _)) (one_triples _) (by omega) (by omega) hE'.size) ?_
    rintro v' Wc ⟨ho, hE2⟩
    exact ⟨owns_slice ho, by have := ho; exact this, hE2⟩
  obtain ⟨o6, c6, rfl⟩ := hv
  simp only [Act.put, List.setIfInBounds_toArray, List.set_cons_succ, List.set_cons_zero]
  repeat (first | (refine tree_det (by rfl) _ (by rfl) (fun W hW => by go_simp; (try simp (disch := omega) only [IntWalk.i64_in]); try rfl) ?_; simp only [Act.put, List.setIfInBounds_toArray, List.set_cons_succ, List.set_cons_zero]) | (refine tree_skip (by rfl) (by rfl) ?_; simp only [Act.put, List.setIfInBounds_toArray, List.set_cons_succ, List.set_cons_zero]))
  intro W2 hE hF
  have hE' : Ext [] W1 W2 := hE
  have hns : W2.ownsRow W1.heap.size 52 3 (.slice o6 (1 + ns.length) c6) (1 + ns.length) (tripleCells ((0, (10, 15)) :: ns)) := hF _ (List.Mem.head _)
  have hl1 : w.heap.size < W1.heap.size := l0
  have hnb : ∀ g, (Value.slice o6 (1 + ns.length) c6).ownBlock = some g → W1.heap.size ≤ g := fun g e => (owns_ge hns g e).1
  have HF2 := Lib.hid (And.intro ((hE'.block _ l0 (by simp)).trans HB1.out.2) (And.intro (bgo HB1.out.1 hE'.below) (And.intro (HT.out.below hE'.below (Nat.le_refl _)) (show TriplesAt W2 (.slice o6 (1 + ns.length) c6) ((0, (10, 15)) :: ns) from by have := SlAt.of_owns hns; show SlAt 3 W2 _ (ns.length + 1) _; rw [Nat.add_comm ns.length 1]; exact this))))
  clear hE hF hns hE' c0 f0 c2 f2 l0 l2
  obtain ⟨c0, f0, l0⟩ := cells_of_block HF2.out.1
  go_wp2_with fail
  have hset := set_block (o := 8) (set_block (o := 7) (set_block (o := 6) (set_block (o := 5) (set_block (o := 4) (set_block (o := 3) (set_block (o := 2) (set_block (o := 1) (set_block (o := 0) HF2.out.1 (iv 4)) (iv 2)) (iv 0)) (iv 0)) (.slice (some ⟨w.heap.size + 1, 0, none⟩) 2 2)) (iv 10)) (iv 20)) (iv 22)) (.slice o6 (1 + ns.length) c6)
  have hE9 := ext_sets w.heap.size [(0, iv 4), (1, iv 2), (2, iv 0), (3, iv 0), (4, .slice (some ⟨w.heap.size + 1, 0, none⟩) 2 2), (5, iv 10), (6, iv 20), (7, iv 22), (8, .slice o6 (1 + ns.length) c6)] W2
  simp only [List.foldl_cons, List.foldl_nil] at hE9
  generalize ((((((((W2.setCell ⟨w.heap.size, 0, none⟩ (iv 4)).setCell ⟨w.heap.size, 1, none⟩ (iv 2)).setCell ⟨w.heap.size, 2, none⟩ (iv 0)).setCell ⟨w.heap.size, 3, none⟩ (iv 0)).setCell ⟨w.heap.size, 4, none⟩ (.slice (some ⟨w.heap.size + 1, 0, none⟩) 2 2)).setCell ⟨w.heap.size, 5, none⟩ (iv 10)).setCell ⟨w.heap.size, 6, none⟩ (iv 20)).setCell ⟨w.heap.size, 7, none⟩ (iv 22)).setCell ⟨w.heap.size, 8, none⟩ (.slice o6 (1 + ns.length) c6) = W3 at *
  clear c0 f0
  have hc := (cells_of_block (show W3.heap[w.heap.size]? = some (.cells (lcells (fourL ns) (.slice (some ⟨w.heap.size + 1, 0, none⟩) 2 2) (.slice o6 (1 + ns.length) c6)) 34 (0, 0)) from hset)).1
  have hX := And.intro (below_of_ext HF2.out.2.1 hE9 (Nat.le_refl _)) (And.intro (HF2.out.2.2.1.ext hE9 (fun x hx e => by have h1 : x = w.heap.size := (by simpa using hx); have h2 : w.heap.size + 1 = x := (by simpa [Value.ownBlock] using e); omega)) (HF2.out.2.2.2.ext hE9 (fun x hx e => by have := hnb x e; simp at hx; omega)))
  have HX := Lib.hid hX
  clear hX hE9 hset
  simp only [lcells, fourL, fourF] at hc
  (try simp only [Exit.inBlock, Exit.then])
  refine bodyPost_ret (v := .agg #[iv 4, iv 2, iv 0, iv 0, .slice (some ⟨w.heap.size + 1, 0, none⟩) 2 2, iv 10, iv 20, iv 22, .slice o6 (1 + ns.length) c6]) (by simp [results, Try.results5, go_sem, hc]; try omega) rfl ?_
  exact ⟨_, _, rfl, HX.out.2.1, HX.out.2.2, HX.out.1⟩
end Go.Proofs.Ytechgmnkcijahaa

namespace Go.Proofs.Ytechgmnkcijahaa
open Go.RowKit Go.RG Go.SL Go.Shelf Cou Go.TB
set_option maxHeartbeats 400000
set_option maxRecDepth 10000

theorem ints_newN (W : World) (l : List Int) (h : l.length ≤ 10) : IntsAt (W.alloc (.cells (intCells l).toArray 3)) (.slice (some ⟨W.heap.size, 0, none⟩) l.length l.length) l := SlAt.of_block 1 l.length (heap_new0 _ _) (by simp) (by simp only [maxLen]; omega)

set_option maxHeartbeats 8000000 in
theorem awake_any (w : World) : Calls Try.prog 19 #[] w (PV (.bool true) w) := by
  go_enter Try.func19, Try.ntmps19
  go_wp2_with fail
  refine (four_any ([]) (.slice none 0 0) (by decide) _ (SlAt.nil 3 _)).mono ?_
  rintro e A1 ⟨a1, b1, rfl, ht1, hn1, hb⟩
  have HA1 := Lib.hid hb
  have HS1 := Lib.hid (And.intro ht1 hn1)
  clear hb ht1 hn1
  go_wp2_with fail
  refine (Due_any (fourL []) a1 b1 (.slice (some ⟨A1.heap.size, 0, none⟩) 4 4) [0, 0, 1, 0] _ (HS1.out.1.alloc _) (HS1.out.2.alloc _) (ints_newN A1 [0, 0, 1, 0] (by decide))).mono ?_
  rintro e W1 ⟨hb, ⟨hne, _⟩ | ⟨_, v1, rfl, hv1⟩⟩
  · exact absurd ev_due.1 hne
  rw [ev_due.2] at hv1
  have HV1 := Lib.hid hv1
  have HB1 := Lib.hid (bgo HA1.out (show Below A1.heap.size A1 W1 from bgo (bgoAlloc (Below.refl _ _) _) hb))
  clear hb hv1 HS1 HA1
  go_wp2_with fail
  refine (four_any ([]) (.slice none 0 0) (by decide) _ (SlAt.nil 3 _)).mono ?_
  rintro e A2 ⟨a2, b2, rfl, ht2, hn2, hb⟩
  have HA2 := Lib.hid hb
  have HS2 := Lib.hid (And.intro ht2 hn2)
  clear hb ht2 hn2
  go_wp2_with fail
  refine (Paid_any (fourL []) a2 b2 _ HS2.out.1 HS2.out.2).mono ?_
  rintro e W2 ⟨hb, ⟨hne, _⟩ | ⟨_, v2, rfl, hv2⟩⟩
  · exact absurd ev_asked hne
  rw [ev_paid] at hv2
  have HV2 := Lib.hid (And.intro hv2 (HV1.out.below (bgo HA2.out hb) (Nat.le_refl _)))
  have HB2 := Lib.hid (bgo HB1.out (bgo HA2.out hb))
  clear hb hv2 HS2 HA2
  go_wp2_with fail
  refine (four_any ([]) (.slice none 0 0) (by decide) _ (SlAt.nil 3 _)).mono ?_
  rintro e A3 ⟨a3, b3, rfl, ht3, hn3, hb⟩
  have HA3 := Lib.hid hb
  have HS3 := Lib.hid (And.intro ht3 hn3)
  clear hb ht3 hn3
  go_wp2_with fail
  refine (Owed_any (fourL []) a3 b3 _ HS3.out.1 HS3.out.2).mono ?_
  rintro e W3 ⟨hb, ⟨hne, _⟩ | ⟨_, v3, rfl, hv3⟩⟩
  · exact absurd ev_asked hne
  rw [ev_owed] at hv3
  have HV3 := Lib.hid (And.intro hv3 (And.intro (HV2.out.1.below (bgo HA3.out hb) (Nat.le_refl _)) (HV2.out.2.below (bgo HA3.out hb) (Nat.le_refl _))))
  have HB3 := Lib.hid (bgo HB2.out (bgo HA3.out hb))
  clear hb hv3 HS3 HA3
  go_wp2_with fail
  refine (four_any ([]) (.slice none 0 0) (by decide) _ (SlAt.nil 3 _)).mono ?_
  rintro e A4 ⟨a4, b4, rfl, ht4, hn4, hb⟩
  have HA4 := Lib.hid hb
  have HS4 := Lib.hid (And.intro ht4 hn4)
  clear hb ht4 hn4
  go_wp2_with fail
  refine (Safe_any (fourL []) a4 b4 3 _ HS4.out.1 HS4.out.2).mono ?_
  rintro e W4 ⟨hb, ⟨hne, _⟩ | ⟨_, v4, rfl, hv4⟩⟩
  · exact absurd ev_safe.1 hne
  rw [ev_safe.2] at hv4
  have HV4 := Lib.hid (And.intro hv4 (And.intro (HV3.out.1.below (bgo HA4.out hb) (Nat.le_refl _)) (And.intro (HV3.out.2.1.below (bgo HA4.out hb) (Nat.le_refl _)) (HV3.out.2.2.below (bgo HA4.out hb) (Nat.le_refl _)))))
  have HB4 := Lib.hid (bgo HB3.out (bgo HA4.out hb))
  clear hb hv4 HS4 HA4
  go_wp2_with fail
  refine (four_any ([]) (.slice none 0 0) (by decide) _ (SlAt.nil 3 _)).mono ?_
  rintro e A5 ⟨a5, b5, rfl, ht5, hn5, hb⟩
  have HA5 := Lib.hid hb
  have HS5 := Lib.hid (And.intro ht5 hn5)
  clear hb ht5 hn5
  go_wp2_with fail
  refine (Share_any (fourL []) a5 b5 7 _ HS5.out.1 HS5.out.2).mono ?_
  rintro e W5 ⟨hb, ⟨hne, _⟩ | ⟨_, v5, rfl, hv5⟩⟩
  · exact absurd ev_share.1 hne
  rw [ev_share.2] at hv5
  have h5 := bgo HA5.out hb
  have HV5 := Lib.hid (And.intro hv5 (And.intro (HV4.out.1.below h5 (Nat.le_refl _)) (And.intro (HV4.out.2.1.below h5 (Nat.le_refl _)) (And.intro (HV4.out.2.2.1.below h5 (Nat.le_refl _)) (HV4.out.2.2.2.below h5 (Nat.le_refl _))))))
  have HB5 := Lib.hid (bgo HB4.out h5)
  clear hb hv5 HS5 HA5 h5
  go_wp2_with fail
  refine (four_any ([]) (.slice none 0 0) (by decide) _ (SlAt.nil 3 _)).mono ?_
  rintro e A6 ⟨a6, b6, rfl, ht6, hn6, hb⟩
  have HA6 := Lib.hid hb
  have HS6 := Lib.hid (And.intro ht6 hn6)
  clear hb ht6 hn6
  go_wp2_with fail
  refine (Settle_any (fourL []) a6 b6 _ HS6.out.1 HS6.out.2).mono ?_
  rintro e W6 ⟨hb, ⟨hne, _⟩ | ⟨_, v6, rfl, hv6⟩⟩
  · exact absurd ev_settle.1 hne
  rw [show settleF (fourL []).field = [0, 1, 2, 3] from ev_settle.2] at hv6
  have h6 := bgo HA6.out hb
  have HV6 := Lib.hid (And.intro hv6 (And.intro (HV5.out.1.below h6 (Nat.le_refl _)) (And.intro (HV5.out.2.1.below h6 (Nat.le_refl _)) (And.intro (HV5.out.2.2.1.below h6 (Nat.le_refl _)) (And.intro (HV5.out.2.2.2.1.below h6 (Nat.le_refl _)) (HV5.out.2.2.2.2.below h6 (Nat.le_refl _)))))))
  have HB6 := Lib.hid (bgo HB5.out h6)
  clear hb hv6 HS6 HA6 h6
  go_wp2_with fail
  refine (wrong_any _).mono ?_
  rintro e C7 ⟨rfl, hb⟩
  have HC7 := Lib.hid hb
  clear hb
  go_wp2_with fail
  refine (four_any ([wrongN]) (.slice (some ⟨C7.heap.size, 0, none⟩) 1 1) (by decide) _ (SlAt.of_block 3 1 (heap_new0 _ _) rfl (by decide))).mono ?_
  rintro e A7 ⟨a7, b7, rfl, ht7, hn7, hb⟩
  have HA7 := Lib.hid hb
  have HS7 := Lib.hid (And.intro ht7 hn7)
  clear hb ht7 hn7
  go_wp2_with fail
  refine (First_any (fourL [wrongN]) a7 b7 _ HS7.out.1 HS7.out.2).mono ?_
  rintro e W7 ⟨hb, ⟨hne, _⟩ | ⟨_, rfl⟩⟩
  · exact absurd ev_first.1 hne
  rw [ev_first.2.1, ev_first.2.2]
  have h7 := bgo HC7.out (bgo (show Below C7.heap.size C7 A7 from bgo (bgoAlloc (Below.refl _ _) _) HA7.out) hb)
  have HV7 := Lib.hid (And.intro (HV6.out.1.below h7 (Nat.le_refl _)) (And.intro (HV6.out.2.1.below h7 (Nat.le_refl _)) (And.intro (HV6.out.2.2.1.below h7 (Nat.le_refl _)) (And.intro (HV6.out.2.2.2.1.below h7 (Nat.le_refl _)) (And.intro (HV6.out.2.2.2.2.1.below h7 (Nat.le_refl _)) (HV6.out.2.2.2.2.2.below h7 (Nat.le_refl _)))))))
  have HB7 := Lib.hid (bgo HB6.out h7)
  clear hb HS7 HA7 HC7 h7
  go_wp2_with fail
  refine (wrong_any _).mono ?_
  rintro e C8 ⟨rfl, hb⟩
  have HC8 := Lib.hid hb
  clear hb
  go_wp2_with fail
  refine (four_any ([wrongN]) (.slice (some ⟨C8.heap.size, 0, none⟩) 1 1) (by decide) _ (SlAt.of_block 3 1 (heap_new0 _ _) rfl (by decide))).mono ?_
  rintro e A8 ⟨a8, b8, rfl, ht8, hn8, hb⟩
  have HA8 := Lib.hid hb
  have HS8 := Lib.hid (And.intro ht8 hn8)
  clear hb ht8 hn8
  go_wp2_with fail
  refine (Leave_any (fourL [wrongN]) a8 b8 _ HS8.out.1 HS8.out.2).mono ?_
  rintro e W8 ⟨hb, ⟨hne, _⟩ | ⟨_, v8, rfl, hv8⟩⟩
  · exact absurd ev_first.1 hne
  rw [ev_leave] at hv8
  have h8 := bgo HC8.out (bgo (show Below C8.heap.size C8 A8 from bgo (bgoAlloc (Below.refl _ _) _) HA8.out) hb)
  have HV8 := Lib.hid (And.intro hv8 (And.intro (HV7.out.1.below h8 (Nat.le_refl _)) (And.intro (HV7.out.2.1.below h8 (Nat.le_refl _)) (And.intro (HV7.out.2.2.1.below h8 (Nat.le_refl _)) (And.intro (HV7.out.2.2.2.1.below h8 (Nat.le_refl _)) (And.intro (HV7.out.2.2.2.2.1.below h8 (Nat.le_refl _)) (HV7.out.2.2.2.2.2.below h8 (Nat.le_refl _))))))))
  have HB8 := Lib.hid (bgo HB7.out h8)
  clear hb hv8 HS8 HA8 HC8 h8 HV1 HV2 HV3 HV4 HV5 HV6 HV7 HB1 HB2 HB3 HB4 HB5 HB6 HB7
  go_wp2_with fail
  have HK := Lib.hid (Below.refl W8.heap.size W8)
  refine (same_any [30, 10] [30, 10] _ _ _ ((SlAt.below HV8.out.2.2.2.2.2.2 HK.out (Nat.le_refl _)).alloc _) (ints_newN _ [30, 10] (by decide))).mono ?_
  rintro e B1 ⟨rfl, hb⟩
  rw [beq_self_eq_true]
  have HK := Lib.hid (bgo HK.out (show Below _ _ B1 from bgo (bgoAlloc (Below.refl _ _) _) hb))
  clear hb
  go_wp2_with fail
  refine (between_any 10 15 _).mono ?_
  rintro e B2 ⟨rfl, hb⟩
  have HK := Lib.hid (bgo HK.out hb)
  clear hb
  go_wp2_with fail
  refine (between_any 5 12 _).mono ?_
  rintro e B2 ⟨rfl, hb⟩
  have HK := Lib.hid (bgo HK.out hb)
  clear hb
  go_wp2_with fail
  refine (two_any [(10, 15), (5, 12)] _ (10, 15) (5, 12) _ (SlAt.below HV8.out.2.2.2.2.2.1 HK.out (Nat.le_refl _)) rfl).mono ?_
  rintro e B2 ⟨rfl, hb⟩
  have HK := Lib.hid (bgo HK.out hb)
  clear hb
  go_wp2_with fail
  refine (between_any 5 20 _).mono ?_
  rintro e B3 ⟨rfl, hb⟩
  have HK := Lib.hid (bgo HK.out hb)
  clear hb
  go_wp2_with fail
  refine (between_any 0 15 _).mono ?_
  rintro e B3 ⟨rfl, hb⟩
  have HK := Lib.hid (bgo HK.out hb)
  clear hb
  go_wp2_with fail
  refine (two_any [(5, 20), (0, 15)] _ (5, 20) (0, 15) _ (SlAt.below HV8.out.2.2.2.2.1 HK.out (Nat.le_refl _)) rfl).mono ?_
  rintro e B3 ⟨rfl, hb⟩
  have HK := Lib.hid (bgo HK.out hb)
  clear hb
  go_wp2_with fail
  refine (same_any [3, 0] [3, 0] _ _ _ ((SlAt.below HV8.out.2.2.2.1 HK.out (Nat.le_refl _)).alloc _) (ints_newN _ [3, 0] (by decide))).mono ?_
  rintro e B4 ⟨rfl, hb⟩
  rw [beq_self_eq_true]
  have HK := Lib.hid (bgo HK.out (show Below _ _ B4 from bgo (bgoAlloc (Below.refl _ _) _) hb))
  clear hb
  go_wp2_with fail
  refine (between_any 4 5 _).mono ?_
  rintro e B5 ⟨rfl, hb⟩
  have HK := Lib.hid (bgo HK.out hb)
  clear hb
  go_wp2_with fail
  refine (between_any 2 3 _).mono ?_
  rintro e B5 ⟨rfl, hb⟩
  have HK := Lib.hid (bgo HK.out hb)
  clear hb
  go_wp2_with fail
  refine (two_any [(4, 5), (2, 3)] _ (4, 5) (2, 3) _ (SlAt.below HV8.out.2.2.1 HK.out (Nat.le_refl _)) rfl).mono ?_
  rintro e B5 ⟨rfl, hb⟩
  have HK := Lib.hid (bgo HK.out hb)
  clear hb
  go_wp2_with fail
  refine (same_any [0, 1, 2, 3] [0, 1, 2, 3] _ _ _ ((SlAt.below HV8.out.2.1 HK.out (Nat.le_refl _)).alloc _) (ints_newN _ [0, 1, 2, 3] (by decide))).mono ?_
  rintro e B6 ⟨rfl, hb⟩
  rw [beq_self_eq_true]
  have HK := Lib.hid (bgo HK.out (show Below _ _ B6 from bgo (bgoAlloc (Below.refl _ _) _) hb))
  clear hb
  go_wp2_with fail
  refine (same_any [0] [0] _ _ _ ((SlAt.below HV8.out.1 HK.out (Nat.le_refl _)).alloc _) (ints_newN _ [0] (by decide))).mono ?_
  rintro e B7 ⟨rfl, hb⟩
  rw [beq_self_eq_true]
  have HK := Lib.hid (bgo HK.out (show Below _ _ B7 from bgo (bgoAlloc (Below.refl _ _) _) hb))
  clear hb
  go_wp2_with fail
  go_returns
  exact ⟨by simp, bgo HB8.out HK.out⟩
end Go.Proofs.Ytechgmnkcijahaa

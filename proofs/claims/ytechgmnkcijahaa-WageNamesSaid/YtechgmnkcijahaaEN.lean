/-
  The walk of WageNames: the document's examples, and the errors.
-/
import Derived.WalkKit
import Derived.WalkLawsBesides
import Derived.WalkSpells
import Derived.Outline
import Derived.Handy
import Derived.KernelRfl
import Derived.Lib.Hide
import Derived.BigRegion
import Derived.Deep.Cut
import Derived.Test.YtechgmnkcijahaaUL
namespace Go.Proofs.Ytechgmnkcijahaa
open Go.RowKit Go.RG Go.SL Go.Shelf Cou Go.TB
set_option maxHeartbeats 400000
set_option maxRecDepth 10000

/-- From w on nothing old has turned; the facts S hold, and last. -/
structure KeepN (w W : World) (S : World → Prop) : Prop where
  below : Below w.heap.size w W
  is : S W
  isL : ∀ W', Below W.heap.size W W' → S W'
theorem KeepN.next {w W W' : World} {S : World → Prop} (h : KeepN w W S) (hb : Below W.heap.size W W') : KeepN w W' S := ⟨bgo h.below hb, h.isL _ hb, fun _ h' => h.isL _ (bgo hb h')⟩
theorem KeepN.add {w W : World} {S T : World → Prop} (h : KeepN w W S) (t : T W) (tl : ∀ W', Below W.heap.size W W' → T W') : KeepN w W (fun X => T X ∧ S X) := ⟨h.below, ⟨t, h.is⟩, fun _ h' => ⟨tl _ h', h.isL _ h'⟩⟩
theorem last_at {W : World} {size : Nat} {v : Value} {n : Nat} {xs : List Value} (h : SlAt size W v n xs) : ∀ W', Below W.heap.size W W' → SlAt size W' v n xs := fun _ h' => h.below h' (Nat.le_refl _)
theorem gworldN {P : Program} {f : FuncId} {args : Array Value} {R : Ending → World → Prop} {W : World} (h : ∀ W', W' = W → Calls P f args W' R) : Calls P f args W R := h W rfl

def idleL : LedgerD := { field := { rows := 1, weeders := 1, left := (0, 1), tallies := [] }, rate := 10, box := (0, 5), notes := [] }
theorem ev_earned : bndL partE (fourL []) (duesT (fourL [])) = [(20, 30), (10, 20)] := by decide +kernel
theorem ev_safe9 : askedErr (fourL []) (inB 9 0 2000) = 0 ∧ safeV (fourL []) 9 = [5, 0] := by decide +kernel
theorem ev_leave0 : leaveW (fourL []) = [] := by decide +kernel
theorem ev_idle : shareErr idleL 5 = 7 := by decide +kernel
theorem ev_pt1 : proveLB (fourL []) [0, 0, 1, 0] [15, 7] = true := by decide +kernel
theorem ev_pt2 : proveLB (fourL []) [0, 0, 1, 0] [16, 6] = false := by decide +kernel
theorem ev_pt3 : proveLB (fourL []) [0, 0, 1, 0] [10, 11] = false := by decide +kernel
theorem ev_pt4 : proveLB (fourL []) [0, 0, 0, 0] [15, 7] = false := by decide +kernel
theorem ev_ps1 : proveSafeB (fourL []) [5, 0] = true := by decide +kernel
theorem ev_ps2 : proveSafeB (fourL []) [6, 0] = false := by decide +kernel
theorem ev_ps3 : proveSafeB (fourL []) [5] = false := by decide +kernel
theorem ev_ps4 : proveSafeB (fourL []) [-1, 0] = false := by decide +kernel
theorem ev_pl1 : proveSettleB (fourL []) [0, 1, 2, 3] = true := by decide +kernel
theorem ev_pl2 : proveSettleB (fourL []) [0, 1, 2] = false := by decide +kernel
theorem ev_pl3 : proveSettleB (fourL []) [0, 1, 3, 2] = false := by decide +kernel
theorem ev_due2 : dueErr (fourL []) [0, 0, 0, 0] = 2 := by decide +kernel
theorem ev_safeE : askedErr (fourL []) (inB 2001 0 2000) = 2 := by decide +kernel
theorem ev_shareE : shareErr (fourL []) (-1) = 2 := by decide +kernel
theorem ev_first0 : faultW (fourL []) = 0 ∧ firstWv (fourL []) = 0 ∧ firstWe (fourL []) = 7 := by decide +kernel
theorem ev_wrongA : askedErr (fourL [wrongN]) true = 11 := by decide +kernel
theorem ev_wrongS : askedErr (fourL [wrongN]) (inB (-1) 0 2000) = 2 := by decide +kernel
theorem ev_f1 : faultW { fourL [] with rate := 51 } = 1 := by decide +kernel
theorem ev_f2 : faultW { fourL [] with box := (3, 2) } = 1 := by decide +kernel
theorem ev_f3 : faultW { fourL [] with notes := [(2, (10, 15))] } = 1 := by decide +kernel
theorem ev_f4 : faultW { fourL [] with notes := [(0, (0, 0)), (0, (0, 0)), (0, (0, 0)), (0, (0, 0)), (0, (0, 0)), (0, (0, 0))] } = 3 := by decide +kernel
theorem ev_f5 : faultW { fourL [] with box := (41, 50) } = 9 := by decide +kernel
theorem ev_f6 : faultW { fourL [] with field := { fourF with rows := 0 } } = 1 := by decide +kernel
theorem ev_f7 : faultW { fourL [] with field := { fourF with tallies := fourF.tallies ++ [(1, 0, 1, (2, 2))] } } = 11 := by decide +kernel
theorem ev_f8 : faultW { field := { rows := 0, weeders := 0, left := (0, 0), tallies := [] }, rate := 0, box := (0, 0), notes := [] } = 1 := by decide +kernel

/-- What four returns, and owns. -/
def PFour (ns : List Rdg) (w : World) (e : Ending) (w' : World) : Prop := ∃ (g : Nat) (o : Option Addr) (c : Nat), e = .returned (lv (fourL ns) (.slice (some ⟨g, 0, none⟩) 2 2) (.slice o (1 + ns.length) c)) ∧ w.heap.size ≤ g ∧ w'.heap[g]? = some (.cells (tlyCells fourF.tallies).toArray 55 (0, 0)) ∧
  w'.ownsRow w.heap.size 52 3 (.slice o (1 + ns.length) c) (1 + ns.length) (tripleCells ((0, (10, 15)) :: ns)) ∧ Below w.heap.size w w'
theorem four_own (ns : List Rdg) (nv : Value) (hn : ns.length ≤ 5) (w : World) (h : TriplesAt w nv ns) : Calls Try.prog 5 #[nv] w (PFour ns w) := by
  obtain ⟨no, nc, rfl⟩ := h.open
  have HH := Lib.hid h
  clear h
  go_enter Try.func5, Try.ntmps5
  go_upto_region 2 with (fail)
  refine gworld fun W1 hW1 => ?_
  have hB1 : Below w.heap.size w W1 := by rw [hW1]; exact (by repeat (first | exact Below.refl _ _ | assumption | refine bgo ?_ (by assumption) | refine bgoAlloc ?_ _ | refine bgoDrew ?_ | refine bgoSet ?_ (by simp; omega) _))
  have k0 : W1.heap[w.heap.size]? = some (.cells #[iv 0, iv 0, iv 0, iv 0, .slice none 0 0, iv 0, iv 0, iv 0, .slice none 0 0] 34 (0, 0)) := by
    rw [hW1]
    exact (Below.heap_alloc _ _ _ (by simp; omega)).trans ((Below.heap_alloc _ _ _ (by simp)).trans (heap_new0 _ _))
  have k1 : W1.heap[w.heap.size + 1]? = some (.cells (tlyCells fourF.tallies).toArray 55 (0, 0)) := by
    rw [hW1]
    exact (Below.heap_alloc _ _ _ (by simp)).trans (heap_new1 _ _ _)
  have k2 : W1.heap[w.heap.size + 2]? = some (.cells #[iv 4, iv 2, iv 0, iv 0, .slice (some ⟨w.heap.size + 1, 0, none⟩) 2 2] 30 (0, 0)) := by
    rw [hW1]
    exact heap_new2 _ _ _ _
  have HKB1 := Lib.hid k1
  have HT := Lib.hid (show TalliesAt W1 (.slice (some ⟨w.heap.size + 1, 0, none⟩) 2 2) fourF.tallies from SlAt.of_block 5 2 k1 rfl (by simp [maxLen]))
  have HH1 := Lib.hid (HH.out.below hB1 (Nat.le_refl _))
  have HB1 := Lib.hid (And.intro hB1 k0)
  obtain ⟨c0, f0, l0⟩ := cells_of_block k0
  obtain ⟨c2, f2, l2⟩ := cells_of_block k2
  clear hW1 hB1 k0 k1 k2
  refine wp_region_rg 8 [] none [(1, Spec.val (rv (20, 22))), (2, Spec.val (rv (10, 15))), (4, Spec.slice W1.heap.size #[iv 0, iv 10, iv 15] 52 1), (6, ⟨fun _ v => ∃ o c, v = .slice o (1 + ns.length) c, fun _ v Wx => Wx.ownsRow W1.heap.size 52 3 v (1 + ns.length) (tripleCells ((0, (10, 15)) :: ns))⟩)] (by as_aux_lemma => kernel_rfl) (by as_aux_lemma => kernel_rfl) ?_
  simp only [List.take_succ_cons, List.take_zero, List.drop_succ_cons, List.drop_zero]
  repeat (first | (refine tree_det (by rfl) _ (by rfl) (fun W hW => by go_simp; (try simp (disch := omega) only [IntWalk.i64_in]); try rfl) ?_; simp only [Act.put, List.setIfInBounds_toArray, List.set_cons_succ, List.set_cons_zero]) | (refine tree_skip (by rfl) (by rfl) ?_; simp only [Act.put, List.setIfInBounds_toArray, List.set_cons_succ, List.set_cons_zero]))
  refine tree_val _ (by rfl) (by rfl) 8 _ (fun W hW => by go_simp; try rfl) (fun W hE hF => by exact between_any 20 22 W) ?_
  simp only [Act.put, List.setIfInBounds_toArray, List.set_cons_succ, List.set_cons_zero]
  repeat (first | (refine tree_det (by rfl) _ (by rfl) (fun W hW => by go_simp; (try simp (disch := omega) only [IntWalk.i64_in]); try rfl) ?_; simp only [Act.put, List.setIfInBounds_toArray, List.set_cons_succ, List.set_cons_zero]) | (refine tree_skip (by rfl) (by rfl) ?_; simp only [Act.put, List.setIfInBounds_toArray, List.set_cons_succ, List.set_cons_zero]))
  refine tree_val _ (by rfl) (by rfl) 8 _ (fun W hW => by go_simp; try rfl) (fun W hE hF => by exact between_any 10 15 W) ?_
  simp only [Act.put, List.setIfInBounds_toArray, List.set_cons_succ, List.set_cons_zero]
  repeat (first | (refine tree_det (by rfl) _ (by rfl) (fun W hW => by go_simp; (try simp (disch := omega) only [IntWalk.i64_in]); try rfl) ?_; simp only [Act.put, List.setIfInBounds_toArray, List.set_cons_succ, List.set_cons_zero]) | (refine tree_skip (by rfl) (by rfl) ?_; simp only [Act.put, List.setIfInBounds_toArray, List.set_cons_succ, List.set_cons_zero]))
  refine tree_slice W1.heap.size _ _ 1 (by rfl) (Nat.le_refl _) (by rfl) (by simp) (by simp) (fun W hW => by go_simp; try rfl) (fun b4 => ?_)
  simp only [Act.put, List.setIfInBounds_toArray, List.set_cons_succ, List.set_cons_zero]
  repeat (first | (refine tree_det (by rfl) _ (by rfl) (fun W hW => by go_simp; (try simp (disch := omega) only [IntWalk.i64_in]); try rfl) ?_; simp only [Act.put, List.setIfInBounds_toArray, List.set_cons_succ, List.set_cons_zero]) | (refine tree_skip (by rfl) (by rfl) ?_; simp only [Act.put, List.setIfInBounds_toArray, List.set_cons_succ, List.set_cons_zero]))
  refine tree_some _ (by rfl) (by rfl) (by exact ⟨.slice none (1 + ns.length) 0, none, 0, rfl⟩) (fun Wa hE hF => ?_) (fun v Wa Wb ho hE => owns_ext (Ms := []) ho (show Ext [] Wa Wb from hE) (by simp)) (fun v hv => ?_)
  · have hE' : Ext [] W1 Wa := hE
    obtain ⟨b', hb', hge, hcc⟩ := hF _ (List.Mem.head _) (by kernel_rfl)
    cases hb'
    refine Does.mono (does_append_full (cs := [iv 0, iv 10, iv 15]) tNotes (by rfl) (by rfl) hge hcc (by rfl) (by simp [maxLen]) (by rfl) (HH1.out.below hE'.below (Nat.le_refl _)) (one_triples _) (by omega) (by omega) hE'.size) ?_
    rintro v' Wc ⟨ho, hE2⟩
    exact ⟨owns_slice ho, by have := ho; exact this, hE2⟩
  obtain ⟨o6, c6, rfl⟩ := hv
  simp only [Act.put, List.setIfInBounds_toArray, List.set_cons_succ, List.set_cons_zero]
  repeat (first | (refine tree_det (by rfl) _ (by rfl) (fun W hW => by go_simp; (try simp (disch := omega) only [IntWalk.i64_in]); try rfl) ?_; simp only [Act.put, List.setIfInBounds_toArray, List.set_cons_succ, List.set_cons_zero]) | (refine tree_skip (by rfl) (by rfl) ?_; simp only [Act.put, List.setIfInBounds_toArray, List.set_cons_succ, List.set_cons_zero]))
  intro W2 hE hF
  have hE' : Ext [] W1 W2 := hE
  have hns : W2.ownsRow W1.heap.size 52 3 (.slice o6 (1 + ns.length) c6) (1 + ns.length) (tripleCells ((0, (10, 15)) :: ns)) := hF _ (List.Mem.head _)
  have hl1 : w.heap.size < W1.heap.size := l0
  have HNS := Lib.hid hns
  have HG2 := Lib.hid ((hE'.block _ (cells_of_block HKB1.out).2.2 (by simp)).trans HKB1.out)
  have hnb : ∀ g, (Value.slice o6 (1 + ns.length) c6).ownBlock = some g → W1.heap.size ≤ g := fun g e => (owns_ge hns g e).1
  have HF2 := Lib.hid (And.intro ((hE'.block _ l0 (by simp)).trans HB1.out.2) (And.intro (bgo HB1.out.1 hE'.below) (And.intro (HT.out.below hE'.below (Nat.le_refl _)) (show TriplesAt W2 (.slice o6 (1 + ns.length) c6) ((0, (10, 15)) :: ns) from by have := SlAt.of_owns hns; show SlAt 3 W2 _ (ns.length + 1) _; rw [Nat.add_comm ns.length 1]; exact this))))
  clear hE hF hns hE' c0 f0 c2 f2 l0 l2
  obtain ⟨c0, f0, l0⟩ := cells_of_block HF2.out.1
  go_wp2_with fail
  have hset := set_block (o := 8) (set_block (o := 7) (set_block (o := 6) (set_block (o := 5) (set_block (o := 4) (set_block (o := 3) (set_block (o := 2) (set_block (o := 1) (set_block (o := 0) HF2.out.1 (iv 4)) (iv 2)) (iv 0)) (iv 0)) (.slice (some ⟨w.heap.size + 1, 0, none⟩) 2 2)) (iv 10)) (iv 20)) (iv 22)) (.slice o6 (1 + ns.length) c6)
  have hE9 := ext_sets w.heap.size [(0, iv 4), (1, iv 2), (2, iv 0), (3, iv 0), (4, .slice (some ⟨w.heap.size + 1, 0, none⟩) 2 2), (5, iv 10), (6, iv 20), (7, iv 22), (8, .slice o6 (1 + ns.length) c6)] W2
  simp only [List.foldl_cons, List.foldl_nil] at hE9
  generalize ((((((((W2.setCell ⟨w.heap.size, 0, none⟩ (iv 4)).setCell ⟨w.heap.size, 1, none⟩ (iv 2)).setCell ⟨w.heap.size, 2, none⟩ (iv 0)).setCell ⟨w.heap.size, 3, none⟩ (iv 0)).setCell ⟨w.heap.size, 4, none⟩ (.slice (some ⟨w.heap.size + 1, 0, none⟩) 2 2)).setCell ⟨w.heap.size, 5, none⟩ (iv 10)).setCell ⟨w.heap.size, 6, none⟩ (iv 20)).setCell ⟨w.heap.size, 7, none⟩ (iv 22)).setCell ⟨w.heap.size, 8, none⟩ (.slice o6 (1 + ns.length) c6) = W3 at *
  clear c0 f0
  have hc := (cells_of_block (show W3.heap[w.heap.size]? = some (.cells (lcells (fourL ns) (.slice (some ⟨w.heap.size + 1, 0, none⟩) 2 2) (.slice o6 (1 + ns.length) c6)) 34 (0, 0)) from hset)).1
  have hX := And.intro (below_of_ext HF2.out.2.1 hE9 (Nat.le_refl _)) (And.intro (HF2.out.2.2.1.ext hE9 (fun x hx e => by have h1 : x = w.heap.size := (by simpa using hx); have h2 : w.heap.size + 1 = x := (by simpa [Value.ownBlock] using e); omega)) (HF2.out.2.2.2.ext hE9 (fun x hx e => by have := hnb x e; simp at hx; omega)))
  have HX := Lib.hid hX
  have HOWN := Lib.hid (owns_base (owns_ext (Ms := [w.heap.size]) HNS.out hE9 (by simp; omega)) (show w.heap.size ≤ W1.heap.size by omega))
  have HG3 := Lib.hid ((hE9.block _ (cells_of_block HG2.out).2.2 (by simp)).trans HG2.out)
  clear hX hE9 hset
  simp only [lcells, fourL, fourF] at hc
  (try simp only [Exit.inBlock, Exit.then])
  refine bodyPost_ret (v := .agg #[iv 4, iv 2, iv 0, iv 0, .slice (some ⟨w.heap.size + 1, 0, none⟩) 2 2, iv 10, iv 20, iv 22, .slice o6 (1 + ns.length) c6]) (by simp [results, Try.results5, go_sem, hc]; try omega) rfl ?_
  exact ⟨w.heap.size + 1, o6, c6, rfl, by omega, HG3.out, HOWN.out, HX.out.1⟩

theorem four0 (w : World) : Calls Try.prog 5 #[.slice none 0 0] w (fun e w' => ∃ (g q c : Nat) (cur : Array Value), e = .returned (lv (fourL []) (.slice (some ⟨g, 0, none⟩) 2 2) (.slice (some ⟨q, 0, none⟩) 1 c)) ∧ w.heap.size ≤ g ∧ w.heap.size ≤ q ∧
    w'.heap[g]? = some (.cells (tlyCells fourF.tallies).toArray 55 (0, 0)) ∧ w'.heap[q]? = some (.cells cur 52 (0, 0)) ∧ (1 ≤ c ∧ c ≤ maxLen ∧ cur.size = c * 3 ∧ cur.toList.take 3 = tripleCells [(0, (10, 15))]) ∧ Below w.heap.size w w') := by
  refine (four_own [] (.slice none 0 0) (by decide) w (SlAt.nil 3 _)).mono ?_
  rintro e w' ⟨g, o, c, rfl, hg, hgb, hown, hb⟩
  obtain ⟨_, ⟨_, h2⟩ | ⟨q, cap, cur, h2, hbg, hqb, hnc, hcm, hcs, htk⟩⟩ := hown
  · cases h2
  cases h2
  exact ⟨g, q, c, cur, rfl, hg, hbg, hgb, hqb, ⟨hnc, hcm, hcs, htk⟩, hb⟩

/-- A world that keeps the old blocks but some, and has new ones in a row. -/
structure NSt (w0 E W : World) (ex : List Nat) (q : Nat) (oq : Obj) (b : Nat) (xs : List Obj) : Prop where
  below : Below w0.heap.size w0 W
  keep : ∀ c, c < E.heap.size → c ∉ ex → W.heap[c]? = E.heap[c]?
  hq : W.heap[q]? = some oq
  hx : ∀ i (h : i < xs.length), W.heap[b + i]? = some xs[i]
  hE : E.heap.size ≤ W.heap.size
theorem NSt.next {w0 E W W' : World} {ex : List Nat} {q : Nat} {oq : Obj} {b : Nat} {xs : List Obj} (h : NSt w0 E W ex q oq b xs) (hb : Below W.heap.size W W') : NSt w0 E W' ex q oq b xs :=
  ⟨bgo h.below hb, fun c hc hn => (hb.block c (by have := h.hE; omega)).trans (h.keep c hc hn), (hb.block q (Array.getElem?_eq_some_iff.1 h.hq).1).trans h.hq, fun i hi => (hb.block _ (Array.getElem?_eq_some_iff.1 (h.hx i hi)).1).trans (h.hx i hi), Nat.le_trans h.hE hb.size⟩
theorem NSt.set {w0 E W : World} {ex : List Nat} {q : Nat} {oq : Obj} {b : Nat} {xs : List Obj} (h : NSt w0 E W ex q oq b xs) {i k : Nat} {cs : Array Value} {t : TypeId} (u : Value) (hi : i < xs.length) (he : xs[i] = .cells cs t (0, 0)) (hbE : E.heap.size ≤ b) (hwb : w0.heap.size ≤ b) (hqb : q < b) :
    NSt w0 E (W.setCell ⟨b + i, k, none⟩ u) ex q oq b (xs.set i (.cells (cs.setIfInBounds k u) t (0, 0))) := by
  refine ⟨bgoSet h.below (by show w0.heap.size ≤ b + i; omega) _, fun c hc hn => (Below.heap_setCell _ _ _ _ (by show c ≠ b + i; omega)).trans (h.keep c hc hn), (Below.heap_setCell _ _ _ _ (by show q ≠ b + i; omega)).trans h.hq, fun j hj => ?_, by simpa [World.setCell] using h.hE⟩
  have hj' : j < xs.length := by simpa using hj
  rw [List.getElem_set]
  by_cases e : i = j
  · subst e
    rw [if_pos rfl]
    exact set_block (by rw [h.hx i hi, he]) u
  · rw [if_neg e]
    exact (Below.heap_setCell _ _ _ _ (by show b + j ≠ b + i; omega)).trans (h.hx j hj')
theorem NSt.setq {w0 E W : World} {ex : List Nat} {q : Nat} {b : Nat} {xs : List Obj} {cs : Array Value} {t : TypeId} (h : NSt w0 E W ex q (.cells cs t (0, 0)) b xs) {k : Nat} (u : Value) (hqe : q ∈ ex) (hwq : w0.heap.size ≤ q) (hqb : q < b) :
    NSt w0 E (W.setCell ⟨q, k, none⟩ u) ex q (.cells (cs.setIfInBounds k u) t (0, 0)) b xs :=
  ⟨bgoSet h.below hwq _, fun c hc hn => (Below.heap_setCell _ _ _ _ (by show c ≠ q; exact fun e => hn (e ▸ hqe))).trans (h.keep c hc hn), set_block h.hq u, fun i hi => (Below.heap_setCell _ _ _ _ (by show b + i ≠ q; omega)).trans (h.hx i hi), by simpa [World.setCell] using h.hE⟩
theorem make_sixN (W : World) : (Instr.makeSlice 32 (.int .i64 6) (.int .i64 6)).run Try.prog W = .ok (.slice (some ⟨W.heap.size, 0, none⟩) 6 6) (W.alloc (.cells (tripleCells [(0, 0, 0), (0, 0, 0), (0, 0, 0), (0, 0, 0), (0, 0, 0), (0, 0, 0)]).toArray 52)) := by
  obtain ⟨i, hi, hz, hs, hby⟩ := info_parts tNotes.info
  have := run_make (P := Try.prog) W 32 52 i (xv (0, 0, 0)) tNotes.und hi hz .i64 .i64 6 6 (by omega) (Int.le_refl _) (by rw [hby]; omega) (by omega)
  rw [this, hs]
  have e : madeCells (xv (0, 0, 0)).cells (Int.toNat 6 * 3) = (tripleCells [(0, 0, 0), (0, 0, 0), (0, 0, 0), (0, 0, 0), (0, 0, 0), (0, 0, 0)]).toArray := by kernel_rfl
  rw [e]
  rfl
theorem tTalN : SliceT Try.prog 28 55 (.agg #[iv 0, iv 0, iv 0, iv 0, iv 0]) 5 40 := ⟨Try.underlying28, by kernel_rfl, rfl, by omega⟩
theorem NSt.grown {w0 E W W' : World} {q : Nat} {oq : Obj} {b g : Nat} {xs : List Obj} (h : NSt w0 E W [q] q oq b xs) (hgr : W.grownBy W' (some g)) (hgb : g < b) (hgq : g ≠ q) (hw : w0.heap.size ≤ g) : NSt w0 E W' [q, g] q oq b xs := by
  have hb : ∀ c, c < W.heap.size → c ≠ g → W'.heap[c]? = W.heap[c]? := fun c hc hn => hgr.block c hc (fun e => hn (by simpa using e))
  refine ⟨Below.grown h.below hgr (by have := h.below.size; omega) (fun x e => by simp at e; omega), fun c hc hn => ?_, ?_, fun i hi => ?_, Nat.le_trans h.hE hgr.size⟩
  · simp only [List.mem_cons, List.not_mem_nil, or_false, not_or] at hn
    exact (hb c (by have := h.hE; omega) hn.2).trans (h.keep c hc (by simpa using hn.1))
  · exact (hb q (Array.getElem?_eq_some_iff.1 h.hq).1 (fun e => hgq e.symm)).trans h.hq
  · exact (hb _ (Array.getElem?_eq_some_iff.1 (h.hx i hi)).1 (by omega)).trans (h.hx i hi)
theorem alloc7 (w : World) (A0 A1 A2 A3 A4 A5 A6 : Obj) : ∀ i (h : i < [A0, A1, A2, A3, A4, A5, A6].length), (((((((w.alloc A0).alloc A1).alloc A2).alloc A3).alloc A4).alloc A5).alloc A6).heap[w.heap.size + i]? = some [A0, A1, A2, A3, A4, A5, A6][i] := by
  have nx : ∀ (X : World) (A : Obj) (n : Nat), X.heap.size = n → (X.alloc A).heap[n]? = some A := fun X A n e => by rw [← e]; exact heap_alloc_new X A
  have ol : ∀ (X : World) (A o : Obj) (n : Nat), X.heap[n]? = some o → (X.alloc A).heap[n]? = some o := fun X A o n h => (Below.heap_alloc _ _ _ (Array.getElem?_eq_some_iff.1 h).1).trans h
  intro i h
  match i, h with
  | 0, _ => exact ol _ _ _ _ (ol _ _ _ _ (ol _ _ _ _ (ol _ _ _ _ (ol _ _ _ _ (ol _ _ _ _ (nx _ _ _ rfl))))))
  | 1, _ => exact ol _ _ _ _ (ol _ _ _ _ (ol _ _ _ _ (ol _ _ _ _ (ol _ _ _ _ (nx _ _ _ (by simp))))))
  | 2, _ => exact ol _ _ _ _ (ol _ _ _ _ (ol _ _ _ _ (ol _ _ _ _ (nx _ _ _ (by simp)))))
  | 3, _ => exact ol _ _ _ _ (ol _ _ _ _ (ol _ _ _ _ (nx _ _ _ (by simp))))
  | 4, _ => exact ol _ _ _ _ (ol _ _ _ _ (nx _ _ _ (by simp)))
  | 5, _ => exact ol _ _ _ _ (nx _ _ _ (by simp))
  | 6, _ => exact nx _ _ _ (by simp)

set_option maxHeartbeats 8000000 in
theorem WageNames_any (W0 : World) : Calls Try.prog 3 #[] W0 (PV (.bool true) W0) := by
  have HK0 := Lib.hid (show KeepN W0 W0 (fun _ => True) from ⟨Below.refl _ _, trivial, fun _ _ => trivial⟩)
  go_enter Try.func3, Try.ntmps3
  go_wp2_with fail
  refine (four_any [] (.slice none 0 0) (by decide) W0 (SlAt.nil 3 _)).mono ?_
  rintro e W1 ⟨a1, b1, rfl, ht1, hn1, hb⟩
  have HL1 := Lib.hid (And.intro ht1 hn1)
  clear ht1 hn1
  have HK1 := Lib.hid (HK0.out.next hb)
  clear hb
  go_wp2_with fail
  refine (Earned_any (fourL []) a1 b1 W1 HL1.out.1 HL1.out.2).mono ?_
  rintro e W2 ⟨hb, ⟨hne, _⟩ | ⟨_, va, rfl, hva⟩⟩
  · exact absurd ev_asked hne
  rw [ev_earned] at hva
  have HVA := Lib.hid hva
  clear hva
  have HK2 := Lib.hid (HK1.out.next hb)
  clear hb
  have HK2 := Lib.hid (HK2.out.add (T := fun W => PairsAt W va [(20, 30), (10, 20)]) HVA.out (last_at HVA.out))
  go_wp2_with fail
  refine (four_any [] (.slice none 0 0) (by decide) W2 (SlAt.nil 3 _)).mono ?_
  rintro e W3 ⟨a3, b3, rfl, ht3, hn3, hb⟩
  have HL3 := Lib.hid (And.intro ht3 hn3)
  clear ht3 hn3
  have HK3 := Lib.hid (HK2.out.next hb)
  clear hb
  go_wp2_with fail
  refine (Safe_any (fourL []) a3 b3 9 W3 HL3.out.1 HL3.out.2).mono ?_
  rintro e W4 ⟨hb, ⟨hne, _⟩ | ⟨_, vp, rfl, hvp⟩⟩
  · exact absurd ev_safe9.1 hne
  rw [ev_safe9.2] at hvp
  have HVP := Lib.hid hvp
  clear hvp
  have HK4 := Lib.hid (HK3.out.next hb)
  clear hb
  have HK4 := Lib.hid (HK4.out.add (T := fun W => IntsAt W vp [5, 0]) HVP.out (last_at HVP.out))
  go_wp2_with fail
  refine (four_any [] (.slice none 0 0) (by decide) W4 (SlAt.nil 3 _)).mono ?_
  rintro e W5 ⟨a5, b5, rfl, ht5, hn5, hb⟩
  have HL5 := Lib.hid (And.intro ht5 hn5)
  clear ht5 hn5
  have HK5 := Lib.hid (HK4.out.next hb)
  clear hb
  go_wp2_with fail
  refine (Leave_any (fourL []) a5 b5 W5 HL5.out.1 HL5.out.2).mono ?_
  rintro e W6 ⟨hb, ⟨hne, _⟩ | ⟨_, vn, rfl, hvn⟩⟩
  · exact absurd ev_settle.1 hne
  rw [ev_leave0] at hvn
  obtain ⟨no, nc, rfl⟩ := hvn.open
  clear hvn
  have HK6 := Lib.hid (HK5.out.next hb)
  clear hb
  go_wp2_with fail
  refine (four_any [] (.slice none 0 0) (by decide) W6 (SlAt.nil 3 _)).mono ?_
  rintro e W7 ⟨a7, b7, rfl, ht7, hn7, hb⟩
  obtain ⟨ao, ac, rfl⟩ := ht7.open
  obtain ⟨bo, bc, rfl⟩ := hn7.open
  clear ht7 hn7
  have HK7 := Lib.hid (HK6.out.next hb)
  clear hb
  go_upto_region 6 with (fail)
  refine gworld fun W8 hW8 => ?_
  have hx : W8.heap[W7.heap.size]? = some (.cells #[iv 1, iv 1, iv 0, iv 1, .slice none 0 0, iv (fourL []).rate, iv (fourL []).box.1, iv (fourL []).box.2, .slice bo (fourL []).notes.length bc] 34 (0, 0)) := by
    rw [hW8]
    exact heap_new0 _ _
  have hb : Below W7.heap.size W7 W8 := by rw [hW8]; exact bgoAlloc (Below.refl _ _) _
  have HX8 := Lib.hid hx
  have HB8 := Lib.hid hb
  obtain ⟨c0, f0, l0⟩ := cells_of_block hx
  clear hW8 hx hb
  go_wp2_with fail
  refine (between_any 0 5 W8).mono ?_
  rintro e W9 ⟨rfl, hb⟩
  have HX9 := Lib.hid ((hb.block _ l0).trans HX8.out)
  have HB9 := Lib.hid (bgo HB8.out hb)
  clear hb c0 f0 l0
  obtain ⟨c0, f0, l0⟩ := cells_of_block HX9.out
  go_upto_region 7 with (fail)
  refine gworld fun W10 hW10 => ?_
  have hx : W10.heap[W7.heap.size]? = some (.cells (lcells idleL (.slice none 0 0) (.slice none 0 0)) 34 (0, 0)) := by rw [hW10]; exact set_block (set_block (set_block HX9.out _) _) _
  have hb : Below W7.heap.size W7 W10 := by rw [hW10]; exact bgoSet (bgoSet (bgoSet HB9.out (Nat.le_refl _) _) (Nat.le_refl _) _) (Nat.le_refl _) _
  have HK10 := Lib.hid (HK7.out.next hb)
  clear hb
  clear hW10 c0 f0 l0
  obtain ⟨c0, f0, l0⟩ := cells_of_block hx
  clear hx
  go_wp2_with fail
  refine (Share_any idleL (.slice none 0 0) (.slice none 0 0) 5 W10 (SlAt.nil 5 _) (SlAt.nil 3 _)).mono ?_
  rintro e W11 ⟨hb, ⟨_, rfl⟩ | ⟨h0, _⟩⟩
  case inr => exact absurd (ev_idle.symm.trans h0) (by decide)
  rw [ev_idle]
  have HK11 := Lib.hid (HK10.out.next hb)
  clear hb
  clear c0 f0 l0
  go_wp2_with fail
  refine (between_any (20) (30) W11).mono ?_
  rintro e W12 ⟨rfl, hb⟩
  have HK12 := Lib.hid (HK11.out.next hb)
  clear hb
  go_wp2_with fail
  refine (between_any (10) (20) W12).mono ?_
  rintro e W13 ⟨rfl, hb⟩
  have HK13 := Lib.hid (HK12.out.next hb)
  clear hb
  go_wp2_with fail
  refine (two_any [(20, 30), (10, 20)] va (20, 30) (10, 20) W13 HK13.out.is.2.1 rfl).mono ?_
  rintro e W14 ⟨rfl, hb⟩
  have HK14 := Lib.hid (HK13.out.next hb)
  clear hb
  go_wp2_with fail
  refine gworldN fun W15 hW15 => ?_
  have hb : Below W14.heap.size W14 W15 := by rw [hW15]; exact bgoAlloc (Below.refl _ _) _
  have hi0 : IntsAt W15 (.slice (some ⟨W14.heap.size, 0, none⟩) 2 2) [5, 0] := by rw [hW15]; exact ints_newN W14 [5, 0] (by decide)
  have HI150 := Lib.hid hi0
  have hbb15 := Lib.hid hb
  have HK15 := Lib.hid (HK14.out.next hb)
  clear hb
  clear hW15 hi0
  refine (same_any [5, 0] [5, 0] vp (.slice (some ⟨W14.heap.size, 0, none⟩) 2 2) W15 HK15.out.is.1 HI150.out).mono ?_
  rw [show (([5, 0] : List Int) == [5, 0]) = true from rfl]
  rintro e W16 ⟨rfl, hb⟩
  have HK16 := Lib.hid (HK15.out.next hb)
  clear hb
  go_wp2_with fail
  refine (four_any [] (.slice none 0 0) (by decide) W16 (SlAt.nil 3 _)).mono ?_
  rintro e W17 ⟨a17, b17, rfl, ht17, hn17, hb⟩
  have HL17 := Lib.hid (And.intro ht17 hn17)
  clear ht17 hn17
  have HK17 := Lib.hid (HK16.out.next hb)
  clear hb
  go_wp2_with fail
  refine gworldN fun W18 hW18 => ?_
  have hb : Below W17.heap.size W17 W18 := by rw [hW18]; exact bgoAlloc (bgoAlloc (Below.refl _ _) _) _
  have hi0 : IntsAt W18 (.slice (some ⟨W17.heap.size, 0, none⟩) 4 4) [0, 0, 1, 0] := by rw [hW18]; exact SlAt.alloc (ints_newN W17 [0, 0, 1, 0] (by decide)) _
  have HI180 := Lib.hid hi0
  have hi1 : IntsAt W18 (.slice (some ⟨W17.heap.size + 1, 0, none⟩) 2 2) [15, 7] := by rw [hW18]; exact by have := ints_newN (W17.alloc (.cells (intCells [0, 0, 1, 0]).toArray 3)) [15, 7] (by decide); rw [World.size_alloc] at this; exact this
  have HI181 := Lib.hid hi1
  have hbb18 := Lib.hid hb
  have HK18 := Lib.hid (HK17.out.next hb)
  clear hb
  clear hW18 hi0 hi1
  have HQ := Lib.hid (ProveTruth_any (fourL []) a17 b17 (.slice (some ⟨W17.heap.size, 0, none⟩) 4 4) (.slice (some ⟨W17.heap.size + 1, 0, none⟩) 2 2) [0, 0, 1, 0] [15, 7] W18 (HL17.out.1.below (hbb18.out) (Nat.le_refl _)) (HL17.out.2.below (hbb18.out) (Nat.le_refl _)) HI180.out HI181.out)
  rw [ev_pt1] at HQ
  refine HQ.out.mono ?_
  rintro e W19 ⟨rfl, hb⟩
  clear HQ
  have HK19 := Lib.hid (HK18.out.next hb)
  clear hb
  go_wp2_with fail
  refine (four_any [] (.slice none 0 0) (by decide) W19 (SlAt.nil 3 _)).mono ?_
  rintro e W20 ⟨a20, b20, rfl, ht20, hn20, hb⟩
  have HL20 := Lib.hid (And.intro ht20 hn20)
  clear ht20 hn20
  have HK20 := Lib.hid (HK19.out.next hb)
  clear hb
  go_wp2_with fail
  refine gworldN fun W21 hW21 => ?_
  have hb : Below W20.heap.size W20 W21 := by rw [hW21]; exact bgoAlloc (bgoAlloc (Below.refl _ _) _) _
  have hi0 : IntsAt W21 (.slice (some ⟨W20.heap.size, 0, none⟩) 4 4) [0, 0, 1, 0] := by rw [hW21]; exact SlAt.alloc (ints_newN W20 [0, 0, 1, 0] (by decide)) _
  have HI210 := Lib.hid hi0
  have hi1 : IntsAt W21 (.slice (some ⟨W20.heap.size + 1, 0, none⟩) 2 2) [16, 6] := by rw [hW21]; exact by have := ints_newN (W20.alloc (.cells (intCells [0, 0, 1, 0]).toArray 3)) [16, 6] (by decide); rw [World.size_alloc] at this; exact this
  have HI211 := Lib.hid hi1
  have hbb21 := Lib.hid hb
  have HK21 := Lib.hid (HK20.out.next hb)
  clear hb
  clear hW21 hi0 hi1
  have HQ := Lib.hid (ProveTruth_any (fourL []) a20 b20 (.slice (some ⟨W20.heap.size, 0, none⟩) 4 4) (.slice (some ⟨W20.heap.size + 1, 0, none⟩) 2 2) [0, 0, 1, 0] [16, 6] W21 (HL20.out.1.below (hbb21.out) (Nat.le_refl _)) (HL20.out.2.below (hbb21.out) (Nat.le_refl _)) HI210.out HI211.out)
  rw [ev_pt2] at HQ
  refine HQ.out.mono ?_
  rintro e W22 ⟨rfl, hb⟩
  clear HQ
  have HK22 := Lib.hid (HK21.out.next hb)
  clear hb
  go_wp2_with fail
  refine (four_any [] (.slice none 0 0) (by decide) W22 (SlAt.nil 3 _)).mono ?_
  rintro e W23 ⟨a23, b23, rfl, ht23, hn23, hb⟩
  have HL23 := Lib.hid (And.intro ht23 hn23)
  clear ht23 hn23
  have HK23 := Lib.hid (HK22.out.next hb)
  clear hb
  go_wp2_with fail
  refine gworldN fun W24 hW24 => ?_
  have hb : Below W23.heap.size W23 W24 := by rw [hW24]; exact bgoAlloc (bgoAlloc (Below.refl _ _) _) _
  have hi0 : IntsAt W24 (.slice (some ⟨W23.heap.size, 0, none⟩) 4 4) [0, 0, 1, 0] := by rw [hW24]; exact SlAt.alloc (ints_newN W23 [0, 0, 1, 0] (by decide)) _
  have HI240 := Lib.hid hi0
  have hi1 : IntsAt W24 (.slice (some ⟨W23.heap.size + 1, 0, none⟩) 2 2) [10, 11] := by rw [hW24]; exact by have := ints_newN (W23.alloc (.cells (intCells [0, 0, 1, 0]).toArray 3)) [10, 11] (by decide); rw [World.size_alloc] at this; exact this
  have HI241 := Lib.hid hi1
  have hbb24 := Lib.hid hb
  have HK24 := Lib.hid (HK23.out.next hb)
  clear hb
  clear hW24 hi0 hi1
  have HQ := Lib.hid (ProveTruth_any (fourL []) a23 b23 (.slice (some ⟨W23.heap.size, 0, none⟩) 4 4) (.slice (some ⟨W23.heap.size + 1, 0, none⟩) 2 2) [0, 0, 1, 0] [10, 11] W24 (HL23.out.1.below (hbb24.out) (Nat.le_refl _)) (HL23.out.2.below (hbb24.out) (Nat.le_refl _)) HI240.out HI241.out)
  rw [ev_pt3] at HQ
  refine HQ.out.mono ?_
  rintro e W25 ⟨rfl, hb⟩
  clear HQ
  have HK25 := Lib.hid (HK24.out.next hb)
  clear hb
  go_wp2_with fail
  refine (four_any [] (.slice none 0 0) (by decide) W25 (SlAt.nil 3 _)).mono ?_
  rintro e W26 ⟨a26, b26, rfl, ht26, hn26, hb⟩
  have HL26 := Lib.hid (And.intro ht26 hn26)
  clear ht26 hn26
  have HK26 := Lib.hid (HK25.out.next hb)
  clear hb
  go_wp2_with fail
  refine gworldN fun W27 hW27 => ?_
  have hb : Below W26.heap.size W26 W27 := by rw [hW27]; exact bgoAlloc (bgoAlloc (Below.refl _ _) _) _
  have hi0 : IntsAt W27 (.slice (some ⟨W26.heap.size, 0, none⟩) 4 4) [0, 0, 0, 0] := by rw [hW27]; exact SlAt.alloc (ints_newN W26 [0, 0, 0, 0] (by decide)) _
  have HI270 := Lib.hid hi0
  have hi1 : IntsAt W27 (.slice (some ⟨W26.heap.size + 1, 0, none⟩) 2 2) [15, 7] := by rw [hW27]; exact by have := ints_newN (W26.alloc (.cells (intCells [0, 0, 0, 0]).toArray 3)) [15, 7] (by decide); rw [World.size_alloc] at this; exact this
  have HI271 := Lib.hid hi1
  have hbb27 := Lib.hid hb
  have HK27 := Lib.hid (HK26.out.next hb)
  clear hb
  clear hW27 hi0 hi1
  have HQ := Lib.hid (ProveTruth_any (fourL []) a26 b26 (.slice (some ⟨W26.heap.size, 0, none⟩) 4 4) (.slice (some ⟨W26.heap.size + 1, 0, none⟩) 2 2) [0, 0, 0, 0] [15, 7] W27 (HL26.out.1.below (hbb27.out) (Nat.le_refl _)) (HL26.out.2.below (hbb27.out) (Nat.le_refl _)) HI270.out HI271.out)
  rw [ev_pt4] at HQ
  refine HQ.out.mono ?_
  rintro e W28 ⟨rfl, hb⟩
  clear HQ
  have HK28 := Lib.hid (HK27.out.next hb)
  clear hb
  go_wp2_with fail
  refine (four_any [] (.slice none 0 0) (by decide) W28 (SlAt.nil 3 _)).mono ?_
  rintro e W29 ⟨a29, b29, rfl, ht29, hn29, hb⟩
  have HL29 := Lib.hid (And.intro ht29 hn29)
  clear ht29 hn29
  have HK29 := Lib.hid (HK28.out.next hb)
  clear hb
  go_wp2_with fail
  refine gworldN fun W30 hW30 => ?_
  have hb : Below W29.heap.size W29 W30 := by rw [hW30]; exact bgoAlloc (Below.refl _ _) _
  have hi0 : IntsAt W30 (.slice (some ⟨W29.heap.size, 0, none⟩) 2 2) [5, 0] := by rw [hW30]; exact ints_newN W29 [5, 0] (by decide)
  have HI300 := Lib.hid hi0
  have hbb30 := Lib.hid hb
  have HK30 := Lib.hid (HK29.out.next hb)
  clear hb
  clear hW30 hi0
  have HQ := Lib.hid (ProveSafe_any (fourL []) a29 b29 (.slice (some ⟨W29.heap.size, 0, none⟩) 2 2) [5, 0] W30 (HL29.out.1.below (hbb30.out) (Nat.le_refl _)) (HL29.out.2.below (hbb30.out) (Nat.le_refl _)) HI300.out)
  rw [ev_ps1] at HQ
  refine HQ.out.mono ?_
  rintro e W31 ⟨rfl, hb⟩
  clear HQ
  have HK31 := Lib.hid (HK30.out.next hb)
  clear hb
  go_wp2_with fail
  refine (four_any [] (.slice none 0 0) (by decide) W31 (SlAt.nil 3 _)).mono ?_
  rintro e W32 ⟨a32, b32, rfl, ht32, hn32, hb⟩
  have HL32 := Lib.hid (And.intro ht32 hn32)
  clear ht32 hn32
  have HK32 := Lib.hid (HK31.out.next hb)
  clear hb
  go_wp2_with fail
  refine gworldN fun W33 hW33 => ?_
  have hb : Below W32.heap.size W32 W33 := by rw [hW33]; exact bgoAlloc (Below.refl _ _) _
  have hi0 : IntsAt W33 (.slice (some ⟨W32.heap.size, 0, none⟩) 2 2) [6, 0] := by rw [hW33]; exact ints_newN W32 [6, 0] (by decide)
  have HI330 := Lib.hid hi0
  have hbb33 := Lib.hid hb
  have HK33 := Lib.hid (HK32.out.next hb)
  clear hb
  clear hW33 hi0
  have HQ := Lib.hid (ProveSafe_any (fourL []) a32 b32 (.slice (some ⟨W32.heap.size, 0, none⟩) 2 2) [6, 0] W33 (HL32.out.1.below (hbb33.out) (Nat.le_refl _)) (HL32.out.2.below (hbb33.out) (Nat.le_refl _)) HI330.out)
  rw [ev_ps2] at HQ
  refine HQ.out.mono ?_
  rintro e W34 ⟨rfl, hb⟩
  clear HQ
  have HK34 := Lib.hid (HK33.out.next hb)
  clear hb
  go_wp2_with fail
  refine (four_any [] (.slice none 0 0) (by decide) W34 (SlAt.nil 3 _)).mono ?_
  rintro e W35 ⟨a35, b35, rfl, ht35, hn35, hb⟩
  have HL35 := Lib.hid (And.intro ht35 hn35)
  clear ht35 hn35
  have HK35 := Lib.hid (HK34.out.next hb)
  clear hb
  go_wp2_with fail
  refine gworldN fun W36 hW36 => ?_
  have hb : Below W35.heap.size W35 W36 := by rw [hW36]; exact bgoAlloc (Below.refl _ _) _
  have hi0 : IntsAt W36 (.slice (some ⟨W35.heap.size, 0, none⟩) 1 1) [5] := by rw [hW36]; exact ints_newN W35 [5] (by decide)
  have HI360 := Lib.hid hi0
  have hbb36 := Lib.hid hb
  have HK36 := Lib.hid (HK35.out.next hb)
  clear hb
  clear hW36 hi0
  have HQ := Lib.hid (ProveSafe_any (fourL []) a35 b35 (.slice (some ⟨W35.heap.size, 0, none⟩) 1 1) [5] W36 (HL35.out.1.below (hbb36.out) (Nat.le_refl _)) (HL35.out.2.below (hbb36.out) (Nat.le_refl _)) HI360.out)
  rw [ev_ps3] at HQ
  refine HQ.out.mono ?_
  rintro e W37 ⟨rfl, hb⟩
  clear HQ
  have HK37 := Lib.hid (HK36.out.next hb)
  clear hb
  go_wp2_with fail
  refine (four_any [] (.slice none 0 0) (by decide) W37 (SlAt.nil 3 _)).mono ?_
  rintro e W38 ⟨a38, b38, rfl, ht38, hn38, hb⟩
  have HL38 := Lib.hid (And.intro ht38 hn38)
  clear ht38 hn38
  have HK38 := Lib.hid (HK37.out.next hb)
  clear hb
  go_wp2_with fail
  refine gworldN fun W39 hW39 => ?_
  have hb : Below W38.heap.size W38 W39 := by rw [hW39]; exact bgoAlloc (Below.refl _ _) _
  have hi0 : IntsAt W39 (.slice (some ⟨W38.heap.size, 0, none⟩) 2 2) [-1, 0] := by rw [hW39]; exact ints_newN W38 [-1, 0] (by decide)
  have HI390 := Lib.hid hi0
  have hbb39 := Lib.hid hb
  have HK39 := Lib.hid (HK38.out.next hb)
  clear hb
  clear hW39 hi0
  have HQ := Lib.hid (ProveSafe_any (fourL []) a38 b38 (.slice (some ⟨W38.heap.size, 0, none⟩) 2 2) [-1, 0] W39 (HL38.out.1.below (hbb39.out) (Nat.le_refl _)) (HL38.out.2.below (hbb39.out) (Nat.le_refl _)) HI390.out)
  rw [ev_ps4] at HQ
  refine HQ.out.mono ?_
  rintro e W40 ⟨rfl, hb⟩
  clear HQ
  have HK40 := Lib.hid (HK39.out.next hb)
  clear hb
  go_wp2_with fail
  refine (four_any [] (.slice none 0 0) (by decide) W40 (SlAt.nil 3 _)).mono ?_
  rintro e W41 ⟨a41, b41, rfl, ht41, hn41, hb⟩
  have HL41 := Lib.hid (And.intro ht41 hn41)
  clear ht41 hn41
  have HK41 := Lib.hid (HK40.out.next hb)
  clear hb
  go_wp2_with fail
  refine gworldN fun W42 hW42 => ?_
  have hb : Below W41.heap.size W41 W42 := by rw [hW42]; exact bgoAlloc (Below.refl _ _) _
  have hi0 : IntsAt W42 (.slice (some ⟨W41.heap.size, 0, none⟩) 4 4) [0, 1, 2, 3] := by rw [hW42]; exact ints_newN W41 [0, 1, 2, 3] (by decide)
  have HI420 := Lib.hid hi0
  have hbb42 := Lib.hid hb
  have HK42 := Lib.hid (HK41.out.next hb)
  clear hb
  clear hW42 hi0
  have HQ := Lib.hid (ProveSettle_any (fourL []) a41 b41 (.slice (some ⟨W41.heap.size, 0, none⟩) 4 4) [0, 1, 2, 3] W42 (HL41.out.1.below (hbb42.out) (Nat.le_refl _)) (HL41.out.2.below (hbb42.out) (Nat.le_refl _)) HI420.out)
  rw [ev_pl1] at HQ
  refine HQ.out.mono ?_
  rintro e W43 ⟨rfl, hb⟩
  clear HQ
  have HK43 := Lib.hid (HK42.out.next hb)
  clear hb
  go_wp2_with fail
  refine (four_any [] (.slice none 0 0) (by decide) W43 (SlAt.nil 3 _)).mono ?_
  rintro e W44 ⟨a44, b44, rfl, ht44, hn44, hb⟩
  have HL44 := Lib.hid (And.intro ht44 hn44)
  clear ht44 hn44
  have HK44 := Lib.hid (HK43.out.next hb)
  clear hb
  go_wp2_with fail
  refine gworldN fun W45 hW45 => ?_
  have hb : Below W44.heap.size W44 W45 := by rw [hW45]; exact bgoAlloc (Below.refl _ _) _
  have hi0 : IntsAt W45 (.slice (some ⟨W44.heap.size, 0, none⟩) 3 3) [0, 1, 2] := by rw [hW45]; exact ints_newN W44 [0, 1, 2] (by decide)
  have HI450 := Lib.hid hi0
  have hbb45 := Lib.hid hb
  have HK45 := Lib.hid (HK44.out.next hb)
  clear hb
  clear hW45 hi0
  have HQ := Lib.hid (ProveSettle_any (fourL []) a44 b44 (.slice (some ⟨W44.heap.size, 0, none⟩) 3 3) [0, 1, 2] W45 (HL44.out.1.below (hbb45.out) (Nat.le_refl _)) (HL44.out.2.below (hbb45.out) (Nat.le_refl _)) HI450.out)
  rw [ev_pl2] at HQ
  refine HQ.out.mono ?_
  rintro e W46 ⟨rfl, hb⟩
  clear HQ
  have HK46 := Lib.hid (HK45.out.next hb)
  clear hb
  go_wp2_with fail
  refine (four_any [] (.slice none 0 0) (by decide) W46 (SlAt.nil 3 _)).mono ?_
  rintro e W47 ⟨a47, b47, rfl, ht47, hn47, hb⟩
  have HL47 := Lib.hid (And.intro ht47 hn47)
  clear ht47 hn47
  have HK47 := Lib.hid (HK46.out.next hb)
  clear hb
  go_wp2_with fail
  refine gworldN fun W48 hW48 => ?_
  have hb : Below W47.heap.size W47 W48 := by rw [hW48]; exact bgoAlloc (Below.refl _ _) _
  have hi0 : IntsAt W48 (.slice (some ⟨W47.heap.size, 0, none⟩) 4 4) [0, 1, 3, 2] := by rw [hW48]; exact ints_newN W47 [0, 1, 3, 2] (by decide)
  have HI480 := Lib.hid hi0
  have hbb48 := Lib.hid hb
  have HK48 := Lib.hid (HK47.out.next hb)
  clear hb
  clear hW48 hi0
  have HQ := Lib.hid (ProveSettle_any (fourL []) a47 b47 (.slice (some ⟨W47.heap.size, 0, none⟩) 4 4) [0, 1, 3, 2] W48 (HL47.out.1.below (hbb48.out) (Nat.le_refl _)) (HL47.out.2.below (hbb48.out) (Nat.le_refl _)) HI480.out)
  rw [ev_pl3] at HQ
  refine HQ.out.mono ?_
  rintro e W49 ⟨rfl, hb⟩
  clear HQ
  have HK49 := Lib.hid (HK48.out.next hb)
  clear hb
  go_wp2_with fail
  refine (four_any [] (.slice none 0 0) (by decide) W49 (SlAt.nil 3 _)).mono ?_
  rintro e W50 ⟨a50, b50, rfl, ht50, hn50, hb⟩
  have HL50 := Lib.hid (And.intro ht50 hn50)
  clear ht50 hn50
  have HK50 := Lib.hid (HK49.out.next hb)
  clear hb
  go_wp2_with fail
  refine gworldN fun W51 hW51 => ?_
  have hb : Below W50.heap.size W50 W51 := by rw [hW51]; exact bgoAlloc (Below.refl _ _) _
  have hi0 : IntsAt W51 (.slice (some ⟨W50.heap.size, 0, none⟩) 4 4) [0, 0, 0, 0] := by rw [hW51]; exact ints_newN W50 [0, 0, 0, 0] (by decide)
  have HI510 := Lib.hid hi0
  have hbb51 := Lib.hid hb
  have HK51 := Lib.hid (HK50.out.next hb)
  clear hb
  clear hW51 hi0
  refine (Due_any (fourL []) a50 b50 (.slice (some ⟨W50.heap.size, 0, none⟩) 4 4) [0, 0, 0, 0] W51 (HL50.out.1.below (hbb51.out) (Nat.le_refl _)) (HL50.out.2.below (hbb51.out) (Nat.le_refl _)) HI510.out).mono ?_
  rintro e W52 ⟨hb, ⟨_, rfl⟩ | ⟨h0, _⟩⟩
  case inr => exact absurd (ev_due2.symm.trans h0) (by decide)
  rw [ev_due2]
  have HK52 := Lib.hid (HK51.out.next hb)
  clear hb
  go_wp2_with fail
  refine (four_any [] (.slice none 0 0) (by decide) W52 (SlAt.nil 3 _)).mono ?_
  rintro e W53 ⟨a53, b53, rfl, ht53, hn53, hb⟩
  have HL53 := Lib.hid (And.intro ht53 hn53)
  clear ht53 hn53
  have HK53 := Lib.hid (HK52.out.next hb)
  clear hb
  go_wp2_with fail
  refine (Safe_any (fourL []) a53 b53 2001 W53 HL53.out.1 HL53.out.2).mono ?_
  rintro e W54 ⟨hb, ⟨_, rfl⟩ | ⟨h0, _⟩⟩
  case inr => exact absurd ((ev_safeE).symm.trans h0) (by decide)
  rw [ev_safeE]
  have HK54 := Lib.hid (HK53.out.next hb)
  clear hb
  go_wp2_with fail
  refine (four_any [] (.slice none 0 0) (by decide) W54 (SlAt.nil 3 _)).mono ?_
  rintro e W55 ⟨a55, b55, rfl, ht55, hn55, hb⟩
  have HL55 := Lib.hid (And.intro ht55 hn55)
  clear ht55 hn55
  have HK55 := Lib.hid (HK54.out.next hb)
  clear hb
  go_wp2_with fail
  refine (Share_any (fourL []) a55 b55 (-1) W55 HL55.out.1 HL55.out.2).mono ?_
  rintro e W56 ⟨hb, ⟨_, rfl⟩ | ⟨h0, _⟩⟩
  case inr => exact absurd ((ev_shareE).symm.trans h0) (by decide)
  rw [ev_shareE]
  have HK56 := Lib.hid (HK55.out.next hb)
  clear hb
  go_wp2_with fail
  refine (four_any [] (.slice none 0 0) (by decide) W56 (SlAt.nil 3 _)).mono ?_
  rintro e W57 ⟨a57, b57, rfl, ht57, hn57, hb⟩
  have HL57 := Lib.hid (And.intro ht57 hn57)
  clear ht57 hn57
  have HK57 := Lib.hid (HK56.out.next hb)
  clear hb
  go_wp2_with fail
  refine (First_any (fourL []) a57 b57 W57 HL57.out.1 HL57.out.2).mono ?_
  rintro e W58 ⟨hb, ⟨hne, _⟩ | ⟨_, rfl⟩⟩
  · exact absurd ev_first0.1 hne
  rw [ev_first0.2.1, ev_first0.2.2]
  have HK58 := Lib.hid (HK57.out.next hb)
  clear hb
  go_wp2_with fail
  refine (wrong_any W58).mono ?_
  rintro e W59 ⟨rfl, hb⟩
  have HK59 := Lib.hid (HK58.out.next hb)
  clear hb
  go_wp2_with fail
  refine gworldN fun W60 hW60 => ?_
  have hb : Below W59.heap.size W59 W60 := by rw [hW60]; exact bgoAlloc (Below.refl _ _) _
  have HT60 := Lib.hid (show TriplesAt W60 (.slice (some ⟨W59.heap.size, 0, none⟩) 1 1) [wrongN] from by rw [hW60]; exact SlAt.of_block 3 1 (heap_new0 _ _) rfl (by decide))
  have HK60 := Lib.hid (HK59.out.next hb)
  clear hb
  clear hW60
  refine (four_any [wrongN] (.slice (some ⟨W59.heap.size, 0, none⟩) 1 1) (by decide) W60 HT60.out).mono ?_
  rintro e W61 ⟨a61, b61, rfl, ht61, hn61, hb⟩
  have HL61 := Lib.hid (And.intro ht61 hn61)
  clear ht61 hn61
  have HK61 := Lib.hid (HK60.out.next hb)
  clear hb
  go_wp2_with fail
  refine (Earned_any (fourL [wrongN]) a61 b61 W61 HL61.out.1 HL61.out.2).mono ?_
  rintro e W62 ⟨hb, ⟨_, rfl⟩ | ⟨h0, _⟩⟩
  case inr => exact absurd (ev_wrongA.symm.trans h0) (by decide)
  rw [ev_wrongA]
  have HK62 := Lib.hid (HK61.out.next hb)
  clear hb
  go_wp2_with fail
  refine (wrong_any W62).mono ?_
  rintro e W63 ⟨rfl, hb⟩
  have HK63 := Lib.hid (HK62.out.next hb)
  clear hb
  go_wp2_with fail
  refine gworldN fun W64 hW64 => ?_
  have hb : Below W63.heap.size W63 W64 := by rw [hW64]; exact bgoAlloc (Below.refl _ _) _
  have HT64 := Lib.hid (show TriplesAt W64 (.slice (some ⟨W63.heap.size, 0, none⟩) 1 1) [wrongN] from by rw [hW64]; exact SlAt.of_block 3 1 (heap_new0 _ _) rfl (by decide))
  have HK64 := Lib.hid (HK63.out.next hb)
  clear hb
  clear hW64
  refine (four_any [wrongN] (.slice (some ⟨W63.heap.size, 0, none⟩) 1 1) (by decide) W64 HT64.out).mono ?_
  rintro e W65 ⟨a65, b65, rfl, ht65, hn65, hb⟩
  have HL65 := Lib.hid (And.intro ht65 hn65)
  clear ht65 hn65
  have HK65 := Lib.hid (HK64.out.next hb)
  clear hb
  go_wp2_with fail
  refine (Safe_any (fourL [wrongN]) a65 b65 (-1) W65 HL65.out.1 HL65.out.2).mono ?_
  rintro e W66 ⟨hb, ⟨_, rfl⟩ | ⟨h0, _⟩⟩
  case inr => exact absurd (ev_wrongS.symm.trans h0) (by decide)
  rw [ev_wrongS]
  have HK66 := Lib.hid (HK65.out.next hb)
  clear hb
  go_wp2_with fail
  have hsb := HK66.out.below.size
  refine (four0 W66).mono ?_
  rintro e W67 ⟨g0, q0, k0, u0, rfl, hg0, hq0, hgb0, hqb0, hk0, hb⟩
  have hsz0 := hb.size
  have HG0 := Lib.hid (And.intro (And.intro hgb0 hqb0) hk0)
  have hgl0 := (cells_of_block hgb0).2.2
  have hql0 := (cells_of_block hqb0).2.2
  have HK67 := Lib.hid (HK66.out.next hb)
  clear hb
  have HK67 := Lib.hid (HK67.out.add (T := fun W => W.heap[g0]? = some (.cells (tlyCells fourF.tallies).toArray 55 (0, 0)) ∧ W.heap[q0]? = some (.cells u0 52 (0, 0))) HG0.out.1 (fun W' h => ⟨(h.block _ hgl0).trans HG0.out.1.1, (h.block _ hql0).trans HG0.out.1.2⟩))
  clear hgb0 hqb0 hk0
  go_wp2_with fail
  refine (four0 W67).mono ?_
  rintro e W68 ⟨g1, q1, k1, u1, rfl, hg1, hq1, hgb1, hqb1, hk1, hb⟩
  have hsz1 := hb.size
  have HG1 := Lib.hid (And.intro (And.intro hgb1 hqb1) hk1)
  have hgl1 := (cells_of_block hgb1).2.2
  have hql1 := (cells_of_block hqb1).2.2
  have HK68 := Lib.hid (HK67.out.next hb)
  clear hb
  have HK68 := Lib.hid (HK68.out.add (T := fun W => W.heap[g1]? = some (.cells (tlyCells fourF.tallies).toArray 55 (0, 0)) ∧ W.heap[q1]? = some (.cells u1 52 (0, 0))) HG1.out.1 (fun W' h => ⟨(h.block _ hgl1).trans HG1.out.1.1, (h.block _ hql1).trans HG1.out.1.2⟩))
  clear hgb1 hqb1 hk1
  go_wp2_with fail
  refine (four0 W68).mono ?_
  rintro e W69 ⟨g2, q2, k2, u2, rfl, hg2, hq2, hgb2, hqb2, hk2, hb⟩
  have hsz2 := hb.size
  have HG2 := Lib.hid (And.intro (And.intro hgb2 hqb2) hk2)
  have hgl2 := (cells_of_block hgb2).2.2
  have hql2 := (cells_of_block hqb2).2.2
  have hgq2 : g2 ≠ q2 := fun e => by rw [e, hqb2] at hgb2; simp at hgb2
  have HK69 := Lib.hid (HK68.out.next hb)
  clear hb
  have HK69 := Lib.hid (HK69.out.add (T := fun W => W.heap[g2]? = some (.cells (tlyCells fourF.tallies).toArray 55 (0, 0)) ∧ W.heap[q2]? = some (.cells u2 52 (0, 0))) HG2.out.1 (fun W' h => ⟨(h.block _ hgl2).trans HG2.out.1.1, (h.block _ hql2).trans HG2.out.1.2⟩))
  clear hgb2 hqb2 hk2
  go_wp2_with fail
  refine (four0 W69).mono ?_
  rintro e W70 ⟨g3, q3, k3, u3, rfl, hg3, hq3, hgb3, hqb3, hk3, hb⟩
  have hsz3 := hb.size
  have HG3 := Lib.hid (And.intro (And.intro hgb3 hqb3) hk3)
  have hgl3 := (cells_of_block hgb3).2.2
  have hql3 := (cells_of_block hqb3).2.2
  have HK70 := Lib.hid (HK69.out.next hb)
  clear hb
  have HK70 := Lib.hid (HK70.out.add (T := fun W => W.heap[g3]? = some (.cells (tlyCells fourF.tallies).toArray 55 (0, 0)) ∧ W.heap[q3]? = some (.cells u3 52 (0, 0))) HG3.out.1 (fun W' h => ⟨(h.block _ hgl3).trans HG3.out.1.1, (h.block _ hql3).trans HG3.out.1.2⟩))
  clear hgb3 hqb3 hk3
  go_wp2_with fail
  refine (four0 W70).mono ?_
  rintro e W71 ⟨g4, q4, k4, u4, rfl, hg4, hq4, hgb4, hqb4, hk4, hb⟩
  have hsz4 := hb.size
  have HG4 := Lib.hid (And.intro (And.intro hgb4 hqb4) hk4)
  have hgl4 := (cells_of_block hgb4).2.2
  have hql4 := (cells_of_block hqb4).2.2
  have HK71 := Lib.hid (HK70.out.next hb)
  clear hb
  have HK71 := Lib.hid (HK71.out.add (T := fun W => W.heap[g4]? = some (.cells (tlyCells fourF.tallies).toArray 55 (0, 0)) ∧ W.heap[q4]? = some (.cells u4 52 (0, 0))) HG4.out.1 (fun W' h => ⟨(h.block _ hgl4).trans HG4.out.1.1, (h.block _ hql4).trans HG4.out.1.2⟩))
  clear hgb4 hqb4 hk4
  go_wp2_with fail
  refine (four0 W71).mono ?_
  rintro e W72 ⟨g5, q5, k5, u5, rfl, hg5, hq5, hgb5, hqb5, hk5, hb⟩
  have hsz5 := hb.size
  have HG5 := Lib.hid (And.intro (And.intro hgb5 hqb5) hk5)
  have hgl5 := (cells_of_block hgb5).2.2
  have hql5 := (cells_of_block hqb5).2.2
  have HK72 := Lib.hid (HK71.out.next hb)
  clear hb
  have HK72 := Lib.hid (HK72.out.add (T := fun W => W.heap[g5]? = some (.cells (tlyCells fourF.tallies).toArray 55 (0, 0)) ∧ W.heap[q5]? = some (.cells u5 52 (0, 0))) HG5.out.1 (fun W' h => ⟨(h.block _ hgl5).trans HG5.out.1.1, (h.block _ hql5).trans HG5.out.1.2⟩))
  clear hgb5 hqb5 hk5
  go_wp2_with fail
  refine (four0 W72).mono ?_
  rintro e W73 ⟨g6, q6, k6, u6, rfl, hg6, hq6, hgb6, hqb6, hk6, hb⟩
  have hsz6 := hb.size
  have HG6 := Lib.hid (And.intro (And.intro hgb6 hqb6) hk6)
  have hgl6 := (cells_of_block hgb6).2.2
  have hql6 := (cells_of_block hqb6).2.2
  have hgq6 : g6 ≠ q6 := fun e => by rw [e, hqb6] at hgb6; simp at hgb6
  have HK73 := Lib.hid (HK72.out.next hb)
  clear hb
  have HK73 := Lib.hid (HK73.out.add (T := fun W => W.heap[g6]? = some (.cells (tlyCells fourF.tallies).toArray 55 (0, 0)) ∧ W.heap[q6]? = some (.cells u6 52 (0, 0))) HG6.out.1 (fun W' h => ⟨(h.block _ hgl6).trans HG6.out.1.1, (h.block _ hql6).trans HG6.out.1.2⟩))
  clear hgb6 hqb6 hk6
  go_upto_region 17 with (fail)
  refine gworld fun W74 hW74 => ?_
  have hb7 : Below W73.heap.size W73 W74 := by rw [hW74]; exact bgoAlloc (bgoAlloc (bgoAlloc (bgoAlloc (bgoAlloc (bgoAlloc (bgoAlloc (Below.refl _ _) _) _) _) _) _) _) _
  have S0 : NSt W0 W73 W74 [q2] q2 (.cells u2 52 (0, 0)) W73.heap.size [.cells (lcells (fourL []) (.slice (some ⟨g0, 0, none⟩) 2 2) (.slice (some ⟨q0, 0, none⟩) 1 k0)) 34 (0, 0), .cells (lcells (fourL []) (.slice (some ⟨g1, 0, none⟩) 2 2) (.slice (some ⟨q1, 0, none⟩) 1 k1)) 34 (0, 0), .cells (lcells (fourL []) (.slice (some ⟨g2, 0, none⟩) 2 2) (.slice (some ⟨q2, 0, none⟩) 1 k2)) 34 (0, 0), .cells (lcells (fourL []) (.slice (some ⟨g3, 0, none⟩) 2 2) (.slice (some ⟨q3, 0, none⟩) 1 k3)) 34 (0, 0), .cells (lcells (fourL []) (.slice (some ⟨g4, 0, none⟩) 2 2) (.slice (some ⟨q4, 0, none⟩) 1 k4)) 34 (0, 0), .cells (lcells (fourL []) (.slice (some ⟨g5, 0, none⟩) 2 2) (.slice (some ⟨q5, 0, none⟩) 1 k5)) 34 (0, 0), .cells (lcells (fourL []) (.slice (some ⟨g6, 0, none⟩) 2 2) (.slice (some ⟨q6, 0, none⟩) 1 k6)) 34 (0, 0)] := by
    refine ⟨bgo HK73.out.below hb7, fun c hc _ => hb7.block c hc, (hb7.block q2 (by omega)).trans HK73.out.is.2.2.2.2.1.2, fun i hi => ?_, hb7.size⟩
    rw [hW74]
    exact alloc7 _ _ _ _ _ _ _ _ i (by simpa using hi)
  have HS0 := Lib.hid S0
  have hbb := W73.heap.size
  obtain ⟨B, hB⟩ : ∃ B, W73.heap.size = B := ⟨_, rfl⟩
  have hw0 : W0.heap.size ≤ W73.heap.size := HK73.out.below.size
  have HFE := Lib.hid (HK73.out.is)
  rw [hB] at HS0 hw0 ⊢
  clear S0 hb7 hW74
  have hq2B : q2 < B := by omega
  have hw2 : W0.heap.size ≤ q2 := by omega
  have hEB : W73.heap.size ≤ B := by omega
  clear hbb
  have h0 : W74.heap[B]? = some (.cells (lcells (fourL []) (.slice (some ⟨g0, 0, none⟩) 2 2) (.slice (some ⟨q0, 0, none⟩) 1 k0)) 34 (0, 0)) := HS0.out.hx 0 (by simp)
  obtain ⟨c0, f0, l0⟩ := cells_of_block h0
  go_wp2_with fail
  refine gworldN fun W75 hW75 => ?_
  have HS1 := Lib.hid (show NSt W0 W73 W75 [q2] q2 (.cells u2 52 (0, 0)) B [.cells (lcells { fourL [] with rate := 51 } (.slice (some ⟨g0, 0, none⟩) 2 2) (.slice (some ⟨q0, 0, none⟩) 1 k0)) 34 (0, 0), .cells (lcells (fourL []) (.slice (some ⟨g1, 0, none⟩) 2 2) (.slice (some ⟨q1, 0, none⟩) 1 k1)) 34 (0, 0), .cells (lcells (fourL []) (.slice (some ⟨g2, 0, none⟩) 2 2) (.slice (some ⟨q2, 0, none⟩) 1 k2)) 34 (0, 0), .cells (lcells (fourL []) (.slice (some ⟨g3, 0, none⟩) 2 2) (.slice (some ⟨q3, 0, none⟩) 1 k3)) 34 (0, 0), .cells (lcells (fourL []) (.slice (some ⟨g4, 0, none⟩) 2 2) (.slice (some ⟨q4, 0, none⟩) 1 k4)) 34 (0, 0), .cells (lcells (fourL []) (.slice (some ⟨g5, 0, none⟩) 2 2) (.slice (some ⟨q5, 0, none⟩) 1 k5)) 34 (0, 0), .cells (lcells (fourL []) (.slice (some ⟨g6, 0, none⟩) 2 2) (.slice (some ⟨q6, 0, none⟩) 1 k6)) 34 (0, 0)] from by rw [hW75]; exact HS0.out.set (i := 0) (k := 5) (iv 51) (by simp) rfl hEB hw0 hq2B)
  clear hW75
  clear h0 c0 f0 l0
  refine (between_any 3 2 W75).mono ?_
  rintro e W76 ⟨rfl, hb⟩
  have HS2 := Lib.hid (HS1.out.next hb)
  clear hb
  have h1 : W76.heap[B + 1]? = some (.cells (lcells (fourL []) (.slice (some ⟨g1, 0, none⟩) 2 2) (.slice (some ⟨q1, 0, none⟩) 1 k1)) 34 (0, 0)) := HS2.out.hx 1 (by simp)
  obtain ⟨c1, f1, l1⟩ := cells_of_block h1
  have h2 : W76.heap[B + 1 + 1]? = some (.cells (lcells (fourL []) (.slice (some ⟨g2, 0, none⟩) 2 2) (.slice (some ⟨q2, 0, none⟩) 1 k2)) 34 (0, 0)) := HS2.out.hx 2 (by simp)
  obtain ⟨c2, f2, l2⟩ := cells_of_block h2
  have h3 : W76.heap[B + 1 + 1 + 1]? = some (.cells (lcells (fourL []) (.slice (some ⟨g3, 0, none⟩) 2 2) (.slice (some ⟨q3, 0, none⟩) 1 k3)) 34 (0, 0)) := HS2.out.hx 3 (by simp)
  obtain ⟨c3, f3, l3⟩ := cells_of_block h3
  obtain ⟨cq, fq, lq⟩ := cells_of_block HS2.out.hq
  have hu20 : u2[0]? = some (iv 0) := by
    have h := congrArg (fun l => l[0]?) HG2.out.2.2.2.2
    simpa [List.getElem?_take, tripleCells] using h
  have hcq : W76.cell? ⟨q2, 0, none⟩ = some (iv 0) := by rw [cq]; exact hu20
  clear cq
  have hmk6 := make_sixN
  go_wp2_with fail
  refine gworldN fun W77 hW77 => ?_
  have T1 := (HS2.out.set (i := 1) (k := 6) (iv 3) (by simp) rfl hEB hw0 hq2B).set (i := 1) (k := 7) (iv 2) (by simp) rfl hEB hw0 hq2B
  have T2 := T1.setq (k := 0) (iv 2) (by simp) hw2 hq2B
  have T3 := T2.set (i := 3) (k := 8) (.slice (some ⟨W76.heap.size, 0, none⟩) 6 6) (by simp) rfl hEB hw0 hq2B
  have T4 := T3.next (bgoAlloc (Below.refl _ _) (.cells (tripleCells [(0, 0, 0), (0, 0, 0), (0, 0, 0), (0, 0, 0), (0, 0, 0), (0, 0, 0)]).toArray 52))
  have HS3 := Lib.hid (show NSt W0 W73 W77 [q2] q2 (.cells (u2.setIfInBounds 0 (iv 2)) 52 (0, 0)) B [.cells (lcells { fourL [] with rate := 51 } (.slice (some ⟨g0, 0, none⟩) 2 2) (.slice (some ⟨q0, 0, none⟩) 1 k0)) 34 (0, 0), .cells (lcells { fourL [] with box := (3, 2) } (.slice (some ⟨g1, 0, none⟩) 2 2) (.slice (some ⟨q1, 0, none⟩) 1 k1)) 34 (0, 0), .cells (lcells (fourL []) (.slice (some ⟨g2, 0, none⟩) 2 2) (.slice (some ⟨q2, 0, none⟩) 1 k2)) 34 (0, 0), .cells (lcells { fourL [] with notes := [(0, 0, 0), (0, 0, 0), (0, 0, 0), (0, 0, 0), (0, 0, 0), (0, 0, 0)] } (.slice (some ⟨g3, 0, none⟩) 2 2) (.slice (some ⟨W76.heap.size, 0, none⟩) 6 6)) 34 (0, 0), .cells (lcells (fourL []) (.slice (some ⟨g4, 0, none⟩) 2 2) (.slice (some ⟨q4, 0, none⟩) 1 k4)) 34 (0, 0), .cells (lcells (fourL []) (.slice (some ⟨g5, 0, none⟩) 2 2) (.slice (some ⟨q5, 0, none⟩) 1 k5)) 34 (0, 0), .cells (lcells (fourL []) (.slice (some ⟨g6, 0, none⟩) 2 2) (.slice (some ⟨q6, 0, none⟩) 1 k6)) 34 (0, 0)] from by rw [hW77]; exact T4)
  have hsz : B + 6 < W76.heap.size := (Array.getElem?_eq_some_iff.1 (HS2.out.hx 6 (by simp))).1
  have HM3 := Lib.hid (show W77.heap[W76.heap.size]? = some (.cells (tripleCells [(0, 0, 0), (0, 0, 0), (0, 0, 0), (0, 0, 0), (0, 0, 0), (0, 0, 0)]).toArray 52 (0, 0)) from by
    rw [hW77]
    have := heap_new0 ((((W76.setCell ⟨B + 1, 6, none⟩ (iv 3)).setCell ⟨B + 1, 7, none⟩ (iv 2)).setCell ⟨q2, 0, none⟩ (iv 2)).setCell ⟨B + 1 + 1 + 1, 8, none⟩ (.slice (some ⟨W76.heap.size, 0, none⟩) 6 6)) (.cells (tripleCells [(0, 0, 0), (0, 0, 0), (0, 0, 0), (0, 0, 0), (0, 0, 0), (0, 0, 0)]).toArray 52)
    simpa only [World.size_setCell] using this)
  clear hW77 T1 T2 T3 T4 hmk6 hcq fq lq
  clear h1 c1 f1 l1 h2 c2 f2 l2 h3 c3 f3 l3
  refine (between_any 41 50 W77).mono ?_
  rintro e W78 ⟨rfl, hb⟩
  have HS4 := Lib.hid (HS3.out.next hb)
  have HM4 := Lib.hid ((hb.block _ (Array.getElem?_eq_some_iff.1 HM3.out).1).trans HM3.out)
  clear hb
  have h4 : W78.heap[B + 1 + 1 + 1 + 1]? = some (.cells (lcells (fourL []) (.slice (some ⟨g4, 0, none⟩) 2 2) (.slice (some ⟨q4, 0, none⟩) 1 k4)) 34 (0, 0)) := HS4.out.hx 4 (by simp)
  obtain ⟨c4, f4, l4⟩ := cells_of_block h4
  have h5 : W78.heap[B + 1 + 1 + 1 + 1 + 1]? = some (.cells (lcells (fourL []) (.slice (some ⟨g5, 0, none⟩) 2 2) (.slice (some ⟨q5, 0, none⟩) 1 k5)) 34 (0, 0)) := HS4.out.hx 5 (by simp)
  obtain ⟨c5, f5, l5⟩ := cells_of_block h5
  have h6 : W78.heap[B + 1 + 1 + 1 + 1 + 1 + 1]? = some (.cells (lcells (fourL []) (.slice (some ⟨g6, 0, none⟩) 2 2) (.slice (some ⟨q6, 0, none⟩) 1 k6)) 34 (0, 0)) := HS4.out.hx 6 (by simp)
  obtain ⟨c6, f6, l6⟩ := cells_of_block h6
  go_upto_region 23 with (fail)
  refine gworld fun W79 hW79 => ?_
  have HS5 := Lib.hid (show NSt W0 W73 W79 [q2] q2 (.cells (u2.setIfInBounds 0 (iv 2)) 52 (0, 0)) B [.cells (lcells { fourL [] with rate := 51 } (.slice (some ⟨g0, 0, none⟩) 2 2) (.slice (some ⟨q0, 0, none⟩) 1 k0)) 34 (0, 0), .cells (lcells { fourL [] with box := (3, 2) } (.slice (some ⟨g1, 0, none⟩) 2 2) (.slice (some ⟨q1, 0, none⟩) 1 k1)) 34 (0, 0), .cells (lcells (fourL []) (.slice (some ⟨g2, 0, none⟩) 2 2) (.slice (some ⟨q2, 0, none⟩) 1 k2)) 34 (0, 0), .cells (lcells { fourL [] with notes := [(0, 0, 0), (0, 0, 0), (0, 0, 0), (0, 0, 0), (0, 0, 0), (0, 0, 0)] } (.slice (some ⟨g3, 0, none⟩) 2 2) (.slice (some ⟨W76.heap.size, 0, none⟩) 6 6)) 34 (0, 0), .cells (lcells { fourL [] with box := (41, 50) } (.slice (some ⟨g4, 0, none⟩) 2 2) (.slice (some ⟨q4, 0, none⟩) 1 k4)) 34 (0, 0), .cells (lcells { fourL [] with field := { fourF with rows := 0 } } (.slice (some ⟨g5, 0, none⟩) 2 2) (.slice (some ⟨q5, 0, none⟩) 1 k5)) 34 (0, 0), .cells (lcells (fourL []) (.slice (some ⟨g6, 0, none⟩) 2 2) (.slice (some ⟨q6, 0, none⟩) 1 k6)) 34 (0, 0)] from by rw [hW79]; exact ((HS4.out.set (i := 4) (k := 6) (iv 41) (by simp) rfl hEB hw0 hq2B).set (i := 4) (k := 7) (iv 50) (by simp) rfl hEB hw0 hq2B).set (i := 5) (k := 0) (iv 0) (by simp) rfl hEB hw0 hq2B)
  have hns : B + 5 < W78.heap.size := l5
  have HM5 := Lib.hid (show W79.heap[W76.heap.size]? = some (.cells (tripleCells [(0, 0, 0), (0, 0, 0), (0, 0, 0), (0, 0, 0), (0, 0, 0), (0, 0, 0)]).toArray 52 (0, 0)) from by
    rw [hW79]
    exact (Below.heap_setCell _ _ _ _ (by show W76.heap.size ≠ B + 5; omega)).trans ((Below.heap_setCell _ _ _ _ (by show W76.heap.size ≠ B + 4; omega)).trans ((Below.heap_setCell _ _ _ _ (by show W76.heap.size ≠ B + 4; omega)).trans HM4.out)))
  clear hW79
  clear h4 c4 f4 l4 h5 c5 f5 l5 h6 c6 f6 l6
  have hg6 := (HS5.out.keep g6 (by omega) (by simp; omega)).trans HFE.out.1.1
  have HT6 := Lib.hid (show W79.ownsRow g6 55 5 (.slice (some ⟨g6, 0, none⟩) 2 2) 2 (tlyCells fourF.tallies) from ⟨by simp [tlyCells, fourF], .inr ⟨g6, 2, _, rfl, Nat.le_refl _, hg6, Nat.le_refl _, by simp [maxLen], by simp [tlyCells, fourF], by simp [tlyCells, fourF]⟩⟩)
  have hgl : g6 < W79.heap.size := (Array.getElem?_eq_some_iff.1 hg6).1
  clear hg6
  have h6 : W79.heap[B + 1 + 1 + 1 + 1 + 1 + 1]? = some (.cells (lcells (fourL []) (.slice (some ⟨g6, 0, none⟩) 2 2) (.slice (some ⟨q6, 0, none⟩) 1 k6)) 34 (0, 0)) := HS5.out.hx 6 (by simp)
  obtain ⟨c6, f6, l6⟩ := cells_of_block h6
  go_wp2_with (at_builtin; go_loud (refine wpList_append_at rfl _ _ tTalN rfl g6 (.slice (some ⟨g6, 0, none⟩) 2 2) 2 (tlyCells fourF.tallies) rfl (owns_ext (Ms := []) HT6.out (Ext.of_below (bgoAlloc (Below.refl _ _) _)) (by simp)) (.slice (some ⟨W79.heap.size, 0, none⟩) 1 1) 1 (tlyCells [(1, 0, 1, (2, 2))]) rfl (SlAt.of_block 5 1 (heap_new0 _ _) rfl (by decide)) (one_tallies _) (by omega) (by omega) (by simp; omega) ?_))
  intro v' W80 hown hgr hcase
  obtain ⟨o6, c6', rfl⟩ := owns_slice hown
  have hszA : W79.heap.size < (W79.alloc (.cells (tlyCells [(1, 0, 1, (2, 2))]).toArray 55)).heap.size := by simp
  have HS6 := Lib.hid (NSt.grown (g := g6) (HS5.out.next (bgoAlloc (Below.refl _ _) (.cells (tlyCells [(1, 0, 1, (2, 2))]).toArray 55))) hgr (by omega) (by omega) (by omega))
  have hnl : W76.heap.size < W79.heap.size := (Array.getElem?_eq_some_iff.1 HM5.out).1
  have HM6 := Lib.hid (show W80.heap[W76.heap.size]? = some (.cells (tripleCells [(0, 0, 0), (0, 0, 0), (0, 0, 0), (0, 0, 0), (0, 0, 0), (0, 0, 0)]).toArray 52 (0, 0)) from (hgr.block W76.heap.size (Nat.lt_trans hnl (by simp)) (fun e => by have : W76.heap.size = g6 := (by simpa [Value.ownBlock] using e); omega)).trans ((Below.heap_alloc _ _ _ hnl).trans HM5.out))
  have hB6 : B + 6 < W79.heap.size := (Array.getElem?_eq_some_iff.1 (HS5.out.hx 6 (by simp))).1
  have hob : ∀ g, (Value.slice o6 (2 + 1) c6').ownBlock = some g → g ≠ B + 6 := fun g hg e => by
    rcases hcase with h | h
    · rw [h] at hg
      have : g6 = g := by simpa [Value.ownBlock] using hg
      omega
    · rw [h] at hg
      have : (W79.alloc (.cells (tlyCells [(1, 0, 1, (2, 2))]).toArray 55)).heap.size = g := by simpa using hg
      omega
  have HOW := Lib.hid hown
  clear hgr hcase hown
  clear h6 c6 f6 l6
  have h6 : W80.heap[B + 1 + 1 + 1 + 1 + 1 + 1]? = some (.cells (lcells (fourL []) (.slice (some ⟨g6, 0, none⟩) 2 2) (.slice (some ⟨q6, 0, none⟩) 1 k6)) 34 (0, 0)) := HS6.out.hx 6 (by simp)
  obtain ⟨c6, f6, l6⟩ := cells_of_block h6
  go_upto_region 24 with (fail)
  refine gworld fun W81 hW81 => ?_
  have HS7 := Lib.hid (show NSt W0 W73 W81 [q2, g6] q2 (.cells (u2.setIfInBounds 0 (iv 2)) 52 (0, 0)) B [.cells (lcells { fourL [] with rate := 51 } (.slice (some ⟨g0, 0, none⟩) 2 2) (.slice (some ⟨q0, 0, none⟩) 1 k0)) 34 (0, 0), .cells (lcells { fourL [] with box := (3, 2) } (.slice (some ⟨g1, 0, none⟩) 2 2) (.slice (some ⟨q1, 0, none⟩) 1 k1)) 34 (0, 0), .cells (lcells (fourL []) (.slice (some ⟨g2, 0, none⟩) 2 2) (.slice (some ⟨q2, 0, none⟩) 1 k2)) 34 (0, 0), .cells (lcells { fourL [] with notes := [(0, 0, 0), (0, 0, 0), (0, 0, 0), (0, 0, 0), (0, 0, 0), (0, 0, 0)] } (.slice (some ⟨g3, 0, none⟩) 2 2) (.slice (some ⟨W76.heap.size, 0, none⟩) 6 6)) 34 (0, 0), .cells (lcells { fourL [] with box := (41, 50) } (.slice (some ⟨g4, 0, none⟩) 2 2) (.slice (some ⟨q4, 0, none⟩) 1 k4)) 34 (0, 0), .cells (lcells { fourL [] with field := { fourF with rows := 0 } } (.slice (some ⟨g5, 0, none⟩) 2 2) (.slice (some ⟨q5, 0, none⟩) 1 k5)) 34 (0, 0), .cells (lcells { fourL [] with field := { fourF with tallies := fourF.tallies ++ [(1, 0, 1, (2, 2))] } } (.slice o6 (2 + 1) c6') (.slice (some ⟨q6, 0, none⟩) 1 k6)) 34 (0, 0)] from by rw [hW81]; exact HS6.out.set (i := 6) (k := 4) (.slice o6 (2 + 1) c6') (by simp) rfl hEB hw0 hq2B)
  have HM7 := Lib.hid (show W81.heap[W76.heap.size]? = some (.cells (tripleCells [(0, 0, 0), (0, 0, 0), (0, 0, 0), (0, 0, 0), (0, 0, 0), (0, 0, 0)]).toArray 52 (0, 0)) from by rw [hW81]; exact (Below.heap_setCell _ _ _ _ (by show W76.heap.size ≠ B + 6; omega)).trans HM6.out)
  have HT7 := Lib.hid (show TalliesAt W81 (.slice o6 (2 + 1) c6') (fourF.tallies ++ [(1, 0, 1, (2, 2))]) from by
    rw [hW81]
    have := SlAt.of_owns (owns_keep (w' := W80.setCell ⟨B + 6, 4, none⟩ (.slice o6 (2 + 1) c6')) HOW.out fun g hg => Below.heap_setCell _ _ _ _ (hob g hg))
    have e : tlyCells (fourF.tallies ++ [(1, 0, 1, (2, 2))]) = tlyCells fourF.tallies ++ tlyCells [(1, 0, 1, (2, 2))] := by simp [tlyCells]
    show SlAt 5 _ _ (2 + 1) _
    rw [e]
    exact this)
  clear hW81
  clear h6 c6 f6 l6
  have HC81 := Lib.hid (Below.refl W81.heap.size W81)
  have h9 : W81.heap[B]? = some (.cells (lcells { fourL [] with rate := 51 } (.slice (some ⟨g0, 0, none⟩) 2 2) (.slice (some ⟨q0, 0, none⟩) 1 k0)) 34 (0, 0)) := HS7.out.hx 0 (by simp)
  obtain ⟨c9, f9, l9⟩ := cells_of_block h9
  have htt : TalliesAt W81 (.slice (some ⟨g0, 0, none⟩) 2 2) fourF.tallies := SlAt.of_block 5 2 ((HS7.out.keep g0 (by omega) (by simp; omega)).trans HFE.out.2.2.2.2.2.2.1.1) (by simp [tlyCells, fourF]) (by simp [maxLen])
  have hnn : TriplesAt W81 (.slice (some ⟨q0, 0, none⟩) 1 k0) [(0, (10, 15))] := SlAt.of_owns (base := 0) (e := 52) ⟨by simp [tripleCells], .inr ⟨q0, k0, _, rfl, Nat.zero_le _, (HS7.out.keep q0 (by omega) (by simp; omega)).trans HFE.out.2.2.2.2.2.2.1.2, HG0.out.2.1, HG0.out.2.2.1, HG0.out.2.2.2.1, HG0.out.2.2.2.2⟩⟩
  have HQ := Lib.hid (CheckLedger_any { fourL [] with rate := 51 } (.slice (some ⟨g0, 0, none⟩) 2 2) (.slice (some ⟨q0, 0, none⟩) 1 k0) W81 (SlAt.below htt HC81.out (Nat.le_refl _)) (SlAt.below hnn HC81.out (Nat.le_refl _)))
  rw [ev_f1] at HQ
  clear htt hnn
  go_wp2_with fail
  refine HQ.out.mono ?_
  rintro e W82 ⟨rfl, hb⟩
  clear HQ
  have HSc82 := Lib.hid (HS7.out.next hb)
  have HC82 := Lib.hid (bgo HC81.out hb)
  clear hb
  clear h9 c9 f9 l9
  have h9 : W82.heap[B + 1]? = some (.cells (lcells { fourL [] with box := (3, 2) } (.slice (some ⟨g1, 0, none⟩) 2 2) (.slice (some ⟨q1, 0, none⟩) 1 k1)) 34 (0, 0)) := HSc82.out.hx 1 (by simp)
  obtain ⟨c9, f9, l9⟩ := cells_of_block h9
  have htt : TalliesAt W81 (.slice (some ⟨g1, 0, none⟩) 2 2) fourF.tallies := SlAt.of_block 5 2 ((HS7.out.keep g1 (by omega) (by simp; omega)).trans HFE.out.2.2.2.2.2.1.1) (by simp [tlyCells, fourF]) (by simp [maxLen])
  have hnn : TriplesAt W81 (.slice (some ⟨q1, 0, none⟩) 1 k1) [(0, (10, 15))] := SlAt.of_owns (base := 0) (e := 52) ⟨by simp [tripleCells], .inr ⟨q1, k1, _, rfl, Nat.zero_le _, (HS7.out.keep q1 (by omega) (by simp; omega)).trans HFE.out.2.2.2.2.2.1.2, HG1.out.2.1, HG1.out.2.2.1, HG1.out.2.2.2.1, HG1.out.2.2.2.2⟩⟩
  have HQ := Lib.hid (CheckLedger_any { fourL [] with box := (3, 2) } (.slice (some ⟨g1, 0, none⟩) 2 2) (.slice (some ⟨q1, 0, none⟩) 1 k1) W82 (SlAt.below htt HC82.out (Nat.le_refl _)) (SlAt.below hnn HC82.out (Nat.le_refl _)))
  rw [ev_f2] at HQ
  clear htt hnn
  go_wp2_with fail
  refine HQ.out.mono ?_
  rintro e W83 ⟨rfl, hb⟩
  clear HQ
  have HSc83 := Lib.hid (HSc82.out.next hb)
  have HC83 := Lib.hid (bgo HC82.out hb)
  clear hb
  clear h9 c9 f9 l9
  have h9 : W83.heap[B + 1 + 1]? = some (.cells (lcells { fourL [] with notes := [(2, (10, 15))] } (.slice (some ⟨g2, 0, none⟩) 2 2) (.slice (some ⟨q2, 0, none⟩) 1 k2)) 34 (0, 0)) := HSc83.out.hx 2 (by simp)
  obtain ⟨c9, f9, l9⟩ := cells_of_block h9
  have htt : TalliesAt W81 (.slice (some ⟨g2, 0, none⟩) 2 2) fourF.tallies := SlAt.of_block 5 2 ((HS7.out.keep g2 (by omega) (by simp; omega)).trans HFE.out.2.2.2.2.1.1) (by simp [tlyCells, fourF]) (by simp [maxLen])
  have hnn : TriplesAt W81 (.slice (some ⟨q2, 0, none⟩) 1 k2) [(2, (10, 15))] := SlAt.of_owns (base := 0) (e := 52) ⟨by simp [tripleCells], .inr ⟨q2, k2, _, rfl, Nat.zero_le _, HS7.out.hq, HG2.out.2.1, HG2.out.2.2.1, by simpa using HG2.out.2.2.2.1, by show ((u2.setIfInBounds 0 (iv 2)).toList).take 3 = _; rw [Array.toList_setIfInBounds, List.take_set, HG2.out.2.2.2.2]; simp [tripleCells]⟩⟩
  have HQ := Lib.hid (CheckLedger_any { fourL [] with notes := [(2, (10, 15))] } (.slice (some ⟨g2, 0, none⟩) 2 2) (.slice (some ⟨q2, 0, none⟩) 1 k2) W83 (SlAt.below htt HC83.out (Nat.le_refl _)) (SlAt.below hnn HC83.out (Nat.le_refl _)))
  rw [ev_f3] at HQ
  clear htt hnn
  go_wp2_with fail
  refine HQ.out.mono ?_
  rintro e W84 ⟨rfl, hb⟩
  clear HQ
  have HSc84 := Lib.hid (HSc83.out.next hb)
  have HC84 := Lib.hid (bgo HC83.out hb)
  clear hb
  clear h9 c9 f9 l9
  have h9 : W84.heap[B + 1 + 1 + 1]? = some (.cells (lcells { fourL [] with notes := [(0, 0, 0), (0, 0, 0), (0, 0, 0), (0, 0, 0), (0, 0, 0), (0, 0, 0)] } (.slice (some ⟨g3, 0, none⟩) 2 2) (.slice (some ⟨W76.heap.size, 0, none⟩) 6 6)) 34 (0, 0)) := HSc84.out.hx 3 (by simp)
  obtain ⟨c9, f9, l9⟩ := cells_of_block h9
  have htt : TalliesAt W81 (.slice (some ⟨g3, 0, none⟩) 2 2) fourF.tallies := SlAt.of_block 5 2 ((HS7.out.keep g3 (by omega) (by simp; omega)).trans HFE.out.2.2.2.1.1) (by simp [tlyCells, fourF]) (by simp [maxLen])
  have hnn : TriplesAt W81 (.slice (some ⟨W76.heap.size, 0, none⟩) 6 6) [(0, 0, 0), (0, 0, 0), (0, 0, 0), (0, 0, 0), (0, 0, 0), (0, 0, 0)] := SlAt.of_block 3 6 HM7.out (by simp [tripleCells]) (by simp [maxLen])
  have HQ := Lib.hid (CheckLedger_any { fourL [] with notes := [(0, 0, 0), (0, 0, 0), (0, 0, 0), (0, 0, 0), (0, 0, 0), (0, 0, 0)] } (.slice (some ⟨g3, 0, none⟩) 2 2) (.slice (some ⟨W76.heap.size, 0, none⟩) 6 6) W84 (SlAt.below htt HC84.out (Nat.le_refl _)) (SlAt.below hnn HC84.out (Nat.le_refl _)))
  rw [ev_f4] at HQ
  clear htt hnn
  go_wp2_with fail
  refine HQ.out.mono ?_
  rintro e W85 ⟨rfl, hb⟩
  clear HQ
  have HSc85 := Lib.hid (HSc84.out.next hb)
  have HC85 := Lib.hid (bgo HC84.out hb)
  clear hb
  clear h9 c9 f9 l9
  have h9 : W85.heap[B + 1 + 1 + 1 + 1]? = some (.cells (lcells { fourL [] with box := (41, 50) } (.slice (some ⟨g4, 0, none⟩) 2 2) (.slice (some ⟨q4, 0, none⟩) 1 k4)) 34 (0, 0)) := HSc85.out.hx 4 (by simp)
  obtain ⟨c9, f9, l9⟩ := cells_of_block h9
  have htt : TalliesAt W81 (.slice (some ⟨g4, 0, none⟩) 2 2) fourF.tallies := SlAt.of_block 5 2 ((HS7.out.keep g4 (by omega) (by simp; omega)).trans HFE.out.2.2.1.1) (by simp [tlyCells, fourF]) (by simp [maxLen])
  have hnn : TriplesAt W81 (.slice (some ⟨q4, 0, none⟩) 1 k4) [(0, (10, 15))] := SlAt.of_owns (base := 0) (e := 52) ⟨by simp [tripleCells], .inr ⟨q4, k4, _, rfl, Nat.zero_le _, (HS7.out.keep q4 (by omega) (by simp; omega)).trans HFE.out.2.2.1.2, HG4.out.2.1, HG4.out.2.2.1, HG4.out.2.2.2.1, HG4.out.2.2.2.2⟩⟩
  have HQ := Lib.hid (CheckLedger_any { fourL [] with box := (41, 50) } (.slice (some ⟨g4, 0, none⟩) 2 2) (.slice (some ⟨q4, 0, none⟩) 1 k4) W85 (SlAt.below htt HC85.out (Nat.le_refl _)) (SlAt.below hnn HC85.out (Nat.le_refl _)))
  rw [ev_f5] at HQ
  clear htt hnn
  go_wp2_with fail
  refine HQ.out.mono ?_
  rintro e W86 ⟨rfl, hb⟩
  clear HQ
  have HSc86 := Lib.hid (HSc85.out.next hb)
  have HC86 := Lib.hid (bgo HC85.out hb)
  clear hb
  clear h9 c9 f9 l9
  have h9 : W86.heap[B + 1 + 1 + 1 + 1 + 1]? = some (.cells (lcells { fourL [] with field := { fourF with rows := 0 } } (.slice (some ⟨g5, 0, none⟩) 2 2) (.slice (some ⟨q5, 0, none⟩) 1 k5)) 34 (0, 0)) := HSc86.out.hx 5 (by simp)
  obtain ⟨c9, f9, l9⟩ := cells_of_block h9
  have htt : TalliesAt W81 (.slice (some ⟨g5, 0, none⟩) 2 2) fourF.tallies := SlAt.of_block 5 2 ((HS7.out.keep g5 (by omega) (by simp; omega)).trans HFE.out.2.1.1) (by simp [tlyCells, fourF]) (by simp [maxLen])
  have hnn : TriplesAt W81 (.slice (some ⟨q5, 0, none⟩) 1 k5) [(0, (10, 15))] := SlAt.of_owns (base := 0) (e := 52) ⟨by simp [tripleCells], .inr ⟨q5, k5, _, rfl, Nat.zero_le _, (HS7.out.keep q5 (by omega) (by simp; omega)).trans HFE.out.2.1.2, HG5.out.2.1, HG5.out.2.2.1, HG5.out.2.2.2.1, HG5.out.2.2.2.2⟩⟩
  have HQ := Lib.hid (CheckLedger_any { fourL [] with field := { fourF with rows := 0 } } (.slice (some ⟨g5, 0, none⟩) 2 2) (.slice (some ⟨q5, 0, none⟩) 1 k5) W86 (SlAt.below htt HC86.out (Nat.le_refl _)) (SlAt.below hnn HC86.out (Nat.le_refl _)))
  rw [ev_f6] at HQ
  clear htt hnn
  go_wp2_with fail
  refine HQ.out.mono ?_
  rintro e W87 ⟨rfl, hb⟩
  clear HQ
  have HSc87 := Lib.hid (HSc86.out.next hb)
  have HC87 := Lib.hid (bgo HC86.out hb)
  clear hb
  clear h9 c9 f9 l9
  have h9 : W87.heap[B + 1 + 1 + 1 + 1 + 1 + 1]? = some (.cells (lcells { fourL [] with field := { fourF with tallies := fourF.tallies ++ [(1, 0, 1, (2, 2))] } } (.slice o6 (2 + 1) c6') (.slice (some ⟨q6, 0, none⟩) 1 k6)) 34 (0, 0)) := HSc87.out.hx 6 (by simp)
  obtain ⟨c9, f9, l9⟩ := cells_of_block h9
  have htt := HT7.out
  have hnn : TriplesAt W81 (.slice (some ⟨q6, 0, none⟩) 1 k6) [(0, (10, 15))] := SlAt.of_owns (base := 0) (e := 52) ⟨by simp [tripleCells], .inr ⟨q6, k6, _, rfl, Nat.zero_le _, (HS7.out.keep q6 (by omega) (by simp; omega)).trans HFE.out.1.2, HG6.out.2.1, HG6.out.2.2.1, HG6.out.2.2.2.1, HG6.out.2.2.2.2⟩⟩
  have HQ := Lib.hid (CheckLedger_any { fourL [] with field := { fourF with tallies := fourF.tallies ++ [(1, 0, 1, (2, 2))] } } (.slice o6 (2 + 1) c6') (.slice (some ⟨q6, 0, none⟩) 1 k6) W87 (SlAt.below htt HC87.out (Nat.le_refl _)) (SlAt.below hnn HC87.out (Nat.le_refl _)))
  rw [ev_f7] at HQ
  clear htt hnn
  go_wp2_with fail
  refine HQ.out.mono ?_
  rintro e W88 ⟨rfl, hb⟩
  clear HQ
  have HSc88 := Lib.hid (HSc87.out.next hb)
  have HC88 := Lib.hid (bgo HC87.out hb)
  clear hb
  clear h9 c9 f9 l9
  go_wp2_with fail
  have HQ := Lib.hid (CheckLedger_any { field := { rows := 0, weeders := 0, left := (0, 0), tallies := [] }, rate := 0, box := (0, 0), notes := [] } (.slice none 0 0) (.slice none 0 0) W88 (SlAt.nil 5 _) (SlAt.nil 3 _))
  rw [ev_f8] at HQ
  refine HQ.out.mono ?_
  rintro e W89 ⟨rfl, hb⟩
  have HSz := Lib.hid (HSc88.out.next hb)
  clear hb HQ
  go_wp2_with fail
  refine (awake_any W89).mono ?_
  rintro e W90 ⟨rfl, hb⟩
  have HBz := Lib.hid (bgo HSz.out.below hb)
  clear hb
  go_wp2_with fail
  go_returns
  exact ⟨by simp, HBz.out⟩
end Go.Proofs.Ytechgmnkcijahaa

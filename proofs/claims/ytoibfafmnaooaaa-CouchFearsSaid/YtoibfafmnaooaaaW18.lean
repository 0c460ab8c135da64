/-
  Contracts of package couch, seventeenth part: shortest's add.
-/
import Derived.WalkKit
import Derived.WalkLawsBesides
import Derived.WalkSpells
import Derived.Outline
import Derived.Handy
import Derived.KernelRfl
import Derived.Lib.Hide
import Derived.Test.YtoibfafmnaooaaaW17
namespace Go.Proofs.Ytoibfafmnaooaaa
open Go.RowKit Go.RG Go.SL Go.Shelf Cou
set_option maxHeartbeats 400000
set_option maxRecDepth 10000

theorem owns_ext {w w' : World} {base : Nat} {e : TypeId} {size : Nat} {v : Value} {n : Nat} {xs : List Value} (h : w.ownsRow base e size v n xs) {Ms : List Nat} (hE : Ext Ms w w') (hM : ∀ x ∈ Ms, x < base) : w'.ownsRow base e size v n xs := by
  obtain ⟨h1, h2 | ⟨g, c, cs, hv, hb, hc, h3⟩⟩ := h
  · exact ⟨h1, .inl h2⟩
  · exact ⟨h1, .inr ⟨g, c, cs, hv, hb, (hE.block g (Array.getElem?_eq_some_iff.1 hc).1 (fun hm => by have := hM g hm; omega)).trans hc, h3⟩⟩

theorem owns_slice {w : World} {base : Nat} {e : TypeId} {size : Nat} {v : Value} {n : Nat} {xs : List Value} (h : w.ownsRow base e size v n xs) : ∃ o c, v = .slice o n c := by
  obtain ⟨h1, ⟨rfl, rfl⟩ | ⟨g, c, cs, rfl, hb, hc, h3⟩⟩ := h
  · exact ⟨none, 0, rfl⟩
  · exact ⟨_, _, rfl⟩

theorem below_extN {w w' : World} {B : Nat} (h : ExtN B [] w w') (hB : w.heap.size ≤ B) : Below w.heap.size w w' := ⟨h.os, h.tape, h.output, h.size, fun k hk => h.block k hk (by omega) (by simp)⟩

theorem extN_grown {w w' : World} {B : Nat} {e : TypeId} {size : Nat} {v : Value} {n : Nat} {xs : List Value} (h : w.ownsRow B e size v n xs) (hg : w.grownBy w' v.ownBlock) : ExtN B [] w w' :=
  ⟨hg.os, hg.tape, hg.output, hg.size, fun k hk hb _ => hg.block k hk (fun e1 => by
    obtain ⟨h1, ⟨rfl, rfl⟩ | ⟨g, c, cs, rfl, hb', hc, h3⟩⟩ := h
    · cases e1
    · have : k = g := by simpa [Value.ownBlock] using e1
      omega)⟩

/-- What is said of Clone's slice, and of the new one of one number, until they are appended. -/
def shPs (B n : Nat) (xs : List Int) (x : Int) : Pres := fun i _ v W =>
  match i with
  | 2 => W.ownsRow B 3 1 v n (intCells xs)
  | 4 => ∃ b : Nat, v = .slice (some ⟨b, 0, none⟩) 1 1 ∧ W.heap[b]? = some (.cells #[iv x] 3 (0, 0))
  | _ => True

/-- What add leaves behind. -/
def AddPost (w0 : World) (mb : Nat) (cool : Int) (pfn : Value) (below fb pb bb ab : Nat) (r : Option (List Int)) (W : World) (e : Ending) (W' : World) : Prop :=
  (ShSt w0 mb cool pfn below fb pb bb ab W' ∧ Ext [mb, fb] W W') ∧ ((∃ c, r = some c ∧ e = .returned (.bool true) ∧ ∃ sv, W'.heap[fb]? = some (.cells #[sv] 25 (0, 0)) ∧ IntsAt W' sv c) ∨ (r = none ∧ e = .returned (.bool false)))

theorem ShSt.set {w0 W : World} {mb : Nat} {cool : Int} {pfn : Value} {below fb pb bb ab : Nat} (h : ShSt w0 mb cool pfn below fb pb bb ab W) (hd : fb ≠ pb ∧ fb ≠ bb ∧ fb ≠ ab) (o : Option Addr) (n c : Nat) : ShSt w0 mb cool pfn below fb pb bb ab (W.setCell ⟨fb, 0, none⟩ (.slice o n c)) := by
  have hn := h.new
  have ho := h.old
  obtain ⟨o', n', c', hf⟩ := h.found
  exact ⟨h.ext.set hn.1 _, h.cache.kept (Below.heap_setCell _ _ _ _ (by show mb ≠ fb; omega)), ⟨o, n, c, set_block hf _⟩,
    (Below.heap_setCell _ _ _ _ (by show pb ≠ fb; omega)).trans h.pass, (Below.heap_setCell _ _ _ _ (by show bb ≠ fb; omega)).trans h.bound, (Below.heap_setCell _ _ _ _ (by show ab ≠ fb; omega)).trans h.add, hn, ho⟩

/-- Neither the table nor found's cell holds numbers. -/
theorem ShSt.not {w0 W : World} {mb : Nat} {cool : Int} {pfn : Value} {below fb pb bb ab : Nat} (h : ShSt w0 mb cool pfn below fb pb bb ab W) : ∀ x ∈ [mb, fb], ∀ o n, W.cell? ⟨x, o, none⟩ ≠ some (.int .i64 n) := by
  intro x hx o n hc
  obtain ⟨o', n', c', hf⟩ := h.found
  rcases List.mem_cons.1 hx with rfl | hx
  · rw [h.cache.noCell o] at hc; cases hc
  · obtain rfl : x = fb := by simpa using hx
    simp only [World.cell?, hf] at hc
    cases o with
    | zero => simp at hc
    | succ o => simp at hc

theorem map_flat {α : Type} (f : α → List (List Int)) (g : List Int → List Int) (l : List α) : (l.flatMap f).map g = l.flatMap fun x => (f x).map g := by
  rw [List.map_flatMap]

theorem shift_find (below m q : Nat) (l : List Int) (p : List Int → Bool) : ((((combs below m (q + 1)).map fun x => ((q : Nat) : Int) :: x)).map (l ++ ·)).find? p = ((combs below m (q + 1)).map ((l ++ [(q : Int)]) ++ ·)).find? p := by
  rw [List.map_map]
  congr 1
  apply List.map_congr_left
  intro x _
  simp

theorem owns_base {w : World} {base base' : Nat} {e : TypeId} {size : Nat} {v : Value} {n : Nat} {xs : List Value} (h : w.ownsRow base' e size v n xs) (hB : base ≤ base') : w.ownsRow base e size v n xs := by
  obtain ⟨h1, h2 | ⟨g, c, cs, hv, hb, h3⟩⟩ := h
  · exact ⟨h1, .inl h2⟩
  · exact ⟨h1, .inr ⟨g, c, cs, hv, Nat.le_trans hB hb, h3⟩⟩

theorem _root_.Go.RG.Does.mono {P : Program} {o : Oper} {ρ : Operand → Value} {W : World} {R R' : Value → World → Prop} (h : Does P o ρ W R) (hR : ∀ v W', R v W' → R' v W') : Does P o ρ W R' := by
  unfold Does at h ⊢
  split at h
  · exact hR _ _ h
  · exact hR _ _ h
  · exact h.mono fun e w' ⟨v, h1, h2⟩ => ⟨v, h1, hR _ _ h2⟩
  · exact h.elim

theorem intCells_snoc (l : List Int) (x : Int) : intCells (l ++ [x]) = intCells l ++ intCells [x] := by simp [intCells]

set_option maxHeartbeats 2000000 in
theorem add_any (below : Nat) (hbl : below ≤ 500) (p : List Int → Bool) (mb : Nat) (cool : Int) (w0 : World) (pf : Nat) (pfst pcaps : Array Value) (fb pb bb ab : Nat) (hd : fb ≠ pb ∧ fb ≠ bb ∧ fb ≠ ab)
    (eg : ∀ args w, (callFunc pf args).run Try.prog w = .ok (.enter pf args) w)
    (hpass : ∀ l v W, Ext [mb] w0 W → Cache W mb cool → IntsAt W v l → Calls Try.prog pf (pfst.push v ++ pcaps) W (fun e W' => e = .returned (.bool (p l)) ∧ Cache W' mb cool ∧ Ext [mb] W W')) :
    ∀ (m f : Nat) (l : List Int) (v : Value) (W : World), l.length + m ≤ 900 → f ≤ 900 → m ≤ 900 → ShSt w0 mb cool (.func (.func pf) pfst pcaps) below fb pb bb ab W → IntsAt W v l →
      Calls Try.prog 106 #[v, iv f, iv m, .pointer (some ⟨fb, 0, none⟩), .pointer (some ⟨pb, 0, none⟩), .pointer (some ⟨bb, 0, none⟩), .pointer (some ⟨ab, 0, none⟩)] W
        (AddPost w0 mb cool (.func (.func pf) pfst pcaps) below fb pb bb ab (((combs below m f).map (l ++ ·)).find? p) W) := by
  intro m
  induction m with
  | zero =>
    intro f l v W h1 h2 h3 hst hv
    have hres : ((combs below 0 f).map (l ++ ·)).find? p = if p l then some l else none := by
      simp only [combs, List.map_cons, List.map_nil, List.append_nil, List.find?_cons, List.find?_nil]
      cases p l <;> rfl
    obtain ⟨r, hr⟩ : ∃ r, ((combs below 0 f).map (l ++ ·)).find? p = r := ⟨_, rfl⟩
    rw [hr] at hres ⊢
    have HRE := Lib.hid hres
    clear hr hres
    obtain ⟨o, c, rfl⟩ := hv.open
    obtain ⟨o', n', c', hf⟩ := hst.found
    have c1 := cell_of_block0 hf
    have c2 := cell_of_block0 hst.pass
    have hlt := World.block_lt_of_cell? W _ c1
    have hfr := frozen_of_block hf 0
    have hS := hst.set hd o l.length c
    have hv1 : IntsAt (W.setCell ⟨fb, 0, none⟩ (.slice o l.length c)) (.slice o l.length c) l := IntsAt.ext_not hv ((ext_set W ⟨fb, 0, none⟩ _).more (Ms' := [mb, fb]) (by simp)) hst.not
    have HC := Lib.hid (hpass l _ _ hS.ext hS.cache hv1)
    have HS := Lib.hid hst
    have HS1 := Lib.hid (And.intro hS hv1)
    have HF := Lib.hid hf
    have hd1 : ¬ pb = fb := fun e => hd.1 e.symm
    have hd2 := hd.1
    clear hpass hst hv hS hv1 hf
    go_enter Try.func106, Try.ntmps106
    go_wp2_with fail
    refine HC.out.mono ?_
    rintro e W' ⟨rfl, hcc, hE⟩
    have hS2 := HS1.out.1.table hE hcc
    have hn := HS.out.new
    have ho := HS.out.old
    have hfb : W'.heap[fb]? = some (.cells #[.slice o l.length c] 25 (0, 0)) := (hE.block fb (by simpa [World.setCell] using hlt) (by simp; omega)).trans (set_block HF.out _)
    have hEE : Ext [mb, fb] W W' := ((ext_set W ⟨fb, 0, none⟩ (.slice o l.length c)).more (by simp)).trans (hE.more (by simp))
    have hv2 : IntsAt W' (.slice o l.length c) l := IntsAt.ext_not HS1.out.2 (hE.more (Ms' := [mb, fb]) (by simp)) HS1.out.1.not
    have HR := Lib.hid (And.intro hS2 (And.intro hfb (And.intro hEE hv2)))
    clear hcc hE hS2 hfb hEE hv2
    go_wp2_with fail
    go_returns
    refine ⟨⟨HR.out.1, HR.out.2.2.1⟩, ?_⟩
    have hre := HRE.out
    revert hre
    cases p l
    · intro hre; exact .inr ⟨by simpa using hre, by simp⟩
    · intro hre; exact .inl ⟨l, by simpa using hre, by simp, _, HR.out.2.1, HR.out.2.2.2⟩
  | succ m ih =>
    intro f l v W h1 h2 h3 hst hv
    obtain ⟨o, c, rfl⟩ := hv.open
    have hres : ((combs below (m + 1) f).map (l ++ ·)).find? p = ((List.range (below - m - f)).flatMap fun j => (combs below m (f + j + 1)).map ((l ++ [((f + j : Nat) : Int)]) ++ ·)).find? p := by
      conv => lhs; unfold combs
      rw [List.map_flatMap]
      simp only [List.map_map]
      congr 2
      funext j
      apply List.map_congr_left
      intro x _
      simp
    rw [hres]
    clear hres
    obtain ⟨r, hr⟩ : ∃ r, ((List.range (below - m - f)).flatMap fun j => (combs below m (f + j + 1)).map ((l ++ [((f + j : Nat) : Int)]) ++ ·)).find? p = r := ⟨_, rfl⟩
    rw [hr]
    have HRE := Lib.hid hr
    clear hr
    have hmm : (m : Int) + 1 ≤ 900 := by omega
    have hm0 : ((m : Int) + 1 == 0) = false := by simp; omega
    have hm0' : ¬ ((m : Int) + 1 = 0) := by omega
    rw [show (((m + 1 : Nat)) : Int) = (m : Int) + 1 from by omega]
    have HST := Lib.hid hst
    have HV := Lib.hid hv
    have HIH := Lib.hid ih
    have HD := Lib.hid hd
    clear hpass hst hv ih hd
    go_enter Try.func106, Try.ntmps106
    go_wp2_with fail
    go_loopw [11] (fun i wr => ∃ q : Nat, f ≤ q ∧ q ≤ f + (below - m - f) ∧ i = .int .i64 q ∧ ShSt w0 mb cool (.func (.func pf) pfst pcaps) below fb pb bb ab wr ∧ Ext [mb, fb] W wr ∧
        (∀ j, f + j < q → ((combs below m (f + j + 1)).map ((l ++ [((f + j : Nat) : Int)]) ++ ·)).find? p = none)) (fun i _ => below + f + 1 - (intOf i).toNat)
    case atStart => exact ⟨f, Nat.le_refl _, by omega, rfl, HST.out, Ext.refl _ _, fun j hj => by omega⟩
    case round =>
      obtain ⟨q, hfq, hq, rfl, hst, hE, hno⟩ := hrel
      have hv := IntsAt.ext_not HV.out hE HST.out.not
      have d1 := cell_of_block0 hst.bound
      have d2 := cell_of_block0 hst.add
      have e1 := World.block_lt_of_cell? wr _ d1
      have e2 := World.block_lt_of_cell? wr _ d2
      have HS := Lib.hid hst
      have HE := Lib.hid hE
      have HN := Lib.hid hno
      have HVV := Lib.hid hv
      clear hst hE hno hv
      by_cases hlt : q < f + (below - m - f)
      · have hqI : (q : Int) ≤ (below : Int) - ((m : Int) + 1) := by omega
        have hq9 : (q : Int) ≤ 500 := by omega
        go_wp2_with fail
        refine wp_region_rgP 10 [] (some 5) [(2, ⟨fun _ v => ∃ o c, v = .slice o l.length c, fun _ _ _ => True⟩), (4, ⟨fun _ v => ∃ b : Nat, v = .slice (some ⟨b, 0, none⟩) 1 1, fun _ _ _ => True⟩), (5, ⟨fun _ v => ∃ o c, v = .slice o (l.length + 1) c, fun _ v W => W.ownsRow wr.heap.size 3 1 v (l.length + 1) (intCells (l ++ [(q : Int)]))⟩)] (shPs wr.heap.size l.length l q) (by kernel_rfl) (by kernel_rfl) ?_
        simp only [List.take_succ_cons, List.take_zero, List.drop_succ_cons, List.drop_zero]
        repeat (refine tree_det (by rfl) _ (by rfl) (fun W hW => by go_simp; (try simp (disch := omega) only [IntWalk.i64_in, Int.tdiv_eq_ediv_of_nonneg]); try rfl) ?_; simp only [Act.put, List.setIfInBounds_toArray, List.set_cons_succ, List.set_cons_zero])
        refine tree_pre _ (by rfl) (by rfl) (by exact ⟨.slice none l.length 0, none, 0, rfl⟩) (fun W1 hE hF hG => ?_) (fun _ _ _ _ _ => trivial) (fun v Wa Wb ho hE => owns_ext (Ms := []) ho hE (by simp)) (fun v hv => ?_)
        · have hE' : ExtN wr.heap.size [] wr W1 := hE
          refine does_enter 81 #[.slice o l.length c] (by go_simp; try rfl) ?_
          refine (clone_any l _ W1 (HVV.out.below (below_extN hE' (Nat.le_refl _)) (Nat.le_refl _)) (by omega)).mono ?_
          rintro e W2 ⟨v, rfl, ho, hb⟩
          refine ⟨v, rfl, owns_slice ho, trivial, Ext.of_below hb, owns_base ho hE'.size⟩
        obtain ⟨o2, c2, rfl⟩ := hv
        simp only [Act.put, List.setIfInBounds_toArray, List.set_cons_succ, List.set_cons_zero]
        repeat (refine tree_det (by rfl) _ (by rfl) (fun W hW => by go_simp; (try simp (disch := omega) only [IntWalk.i64_in, Int.tdiv_eq_ediv_of_nonneg]); try rfl) ?_; simp only [Act.put, List.setIfInBounds_toArray, List.set_cons_succ, List.set_cons_zero])
        refine tree_pre _ (by rfl) (by rfl) (by exact ⟨.slice (some ⟨0, 0, none⟩) 1 1, 0, rfl⟩) (fun W1 hE hF hG => ?_) (fun _ _ _ _ _ => trivial) (fun v Wa Wb ho hE => ?_) (fun v hv => ?_)
        · refine does_value (W' := W1.alloc (.cells #[iv q] 3)) (.slice (some ⟨W1.heap.size, 0, none⟩) 1 1) (by go_simp; try rfl) ⟨⟨_, rfl⟩, trivial, Ext.of_below ((Below.refl _ _).alloc (Nat.le_refl _) _), _, rfl, heap_alloc_new _ _⟩
        · obtain ⟨b, hb, hc⟩ := ho
          exact ⟨b, hb, (hE.block b (Array.getElem?_eq_some_iff.1 hc).1 (by simp)).trans hc⟩
        obtain ⟨b4, rfl⟩ := hv
        simp only [Act.put, List.setIfInBounds_toArray, List.set_cons_succ, List.set_cons_zero]
        refine tree_pre _ (by rfl) (by rfl) (by exact ⟨.slice none (l.length + 1) 0, none, 0, rfl⟩) (fun W1 hE hF hG => ?_) (fun v Wa Wb ho hE => owns_ext (Ms := []) ho hE (by simp)) (fun _ _ _ _ _ => trivial) (fun v hv => ?_)
        · obtain ⟨b, hb, hc⟩ := hG rfl _ (List.Mem.head _) (by kernel_rfl)
          cases hb
          have ho : W1.ownsRow wr.heap.size 3 1 (.slice o2 l.length c2) l.length (intCells l) := hG rfl _ (List.Mem.tail _ (List.Mem.head _)) (by kernel_rfl)
          have hE' : Ext [] wr W1 := hE
          have hsrc : SlAt 1 W1 (.slice (some ⟨b4, 0, none⟩) 1 1) 1 (intCells [(q : Int)]) := SlAt.of_block 1 1 hc rfl (by decide)
          refine Does.mono (does_append tInts (by rfl) (by rfl) ho (by rfl) hsrc (one_ints _) (by omega) (by omega) hE'.size) ?_
          rintro v W2 ⟨hown, hgr⟩
          rw [← intCells_snoc] at hown
          obtain ⟨o5, c5, rfl⟩ := owns_slice hown
          exact ⟨⟨o5, c5, rfl⟩, hown, extN_grown ho hgr, trivial⟩
        obtain ⟨o5, c5, rfl⟩ := hv
        simp only [Act.put, List.setIfInBounds_toArray, List.set_cons_succ, List.set_cons_zero]
        repeat (refine tree_det (by rfl) _ (by rfl) (fun W hW => by go_simp; (try simp (disch := omega) only [IntWalk.i64_in]); try rfl) ?_; simp only [Act.put, List.setIfInBounds_toArray, List.set_cons_succ, List.set_cons_zero])
        intro W1 hE1 hF
        have hE' : ExtN wr.heap.size [] wr W1 := hE1
        have hB := below_extN hE' (Nat.le_refl _)
        obtain ⟨hc, hf⟩ := bcell hB
        have ho : W1.ownsRow wr.heap.size 3 1 (.slice o5 (l.length + 1) c5) (l.length + 1) (intCells (l ++ [(q : Int)])) := hF _ (List.Mem.head _)
        have hiv : IntsAt W1 (.slice o5 (l.length + 1) c5) (l ++ [(q : Int)]) := by
          have := SlAt.of_owns ho
          unfold IntsAt
          rw [List.length_append]
          exact this
        have hcall := HIH.out (q + 1) (l ++ [(q : Int)]) _ W1 (by simp; omega) (by omega) (by omega) (HS.out.below hB) hiv
        rw [show (((q + 1 : Nat)) : Int) = (q : Int) + 1 from by omega] at hcall
        have HC := Lib.hid hcall
        have HB := Lib.hid hB
        clear hcall hiv ho hB hE' hE1 hF
        go_wp2_with fail
        refine HC.out.mono ?_
        rintro e W2 ⟨⟨hS2, hE2⟩, hres⟩
        have HS2 := Lib.hid hS2
        have HEE := Lib.hid ((HE.out.trans (Ext.of_below HB.out)).trans hE2)
        clear hS2 hE2 hc hf d1 d2
        have hq1 : f + (q - f) = q := by omega
        rcases hres with ⟨cc, hcc, rfl, sv, hsv, hiv⟩ | ⟨hnone, rfl⟩
        · have HR := Lib.hid (And.intro hcc (And.intro hsv hiv))
          clear hcc hsv hiv
          go_wp2_with fail
          go_returns
          refine ⟨⟨HS2.out, HEE.out⟩, .inl ⟨cc, ?_, by simp, sv, HR.out.2⟩⟩
          rw [← HRE.out]
          refine find_flat_first p _ _ (q - f) (by simp; omega) cc (fun j hj => ?_) ?_
          · simp only [List.getElem_range]
            exact HN.out j (by omega)
          · simp only [List.getElem_range, hq1]
            exact HR.out.1
        · have HR := Lib.hid hnone
          clear hnone
          go_wp2_with fail
          go_roundw
          case rel =>
            refine ⟨q + 1, by omega, by omega, by go_num, HS2.out, HEE.out, fun j hj => ?_⟩
            by_cases hjq : f + j = q
            · rw [hjq]; exact HR.out
            · exact HN.out j (by omega)
          case measure => simp [intOf]; omega
      · have hqI : ¬ ((q : Int) ≤ (below : Int) - ((m : Int) + 1)) := by omega
        go_wp2_with fail
        go_returns
        refine ⟨⟨HS.out, HE.out⟩, .inr ⟨?_, by simp⟩⟩
        rw [← HRE.out]
        exact find_flat_none p _ _ (fun j hj => by
          simp only [List.length_range] at hj
          simp only [List.getElem_range]
          exact HN.out j (by omega))

end Go.Proofs.Ytoibfafmnaooaaa

/-
  CouchNames: the walk.
-/
import Derived.WalkKit
import Derived.WalkLawsBesides
import Derived.WalkSpells
import Derived.Outline
import Derived.Handy
import Derived.KernelRfl
import Derived.Lib.Hide
import Derived.Test.YtoibfafmnaooaaaE2
import Derived.Deep.Cut
namespace Go.Proofs.Ytoibfafmnaooaaa
open Go.RowKit Go.RG Go.SL Go.Shelf Cou
set_option maxHeartbeats 400000
set_option maxRecDepth 10000

theorem ints_empty {w w' : World} {v : Value} (h : IntsAt w v []) : IntsAt w' v [] := by
  obtain ⟨hl, o, c, hv, h1, h2, h3, h4⟩ := h
  exact ⟨hl, o, c, hv, h1, h2, h3, fun a ha => ⟨(h4 a ha).1, fun j u hj => by simp [intCells] at hj⟩⟩

theorem pairs_take {w : World} {o : Option Addr} {n c : Nat} {l : List Rng} (h : SlAt 2 w (.slice o n c) n (pairCells l)) (k : Nat) (hk : k ≤ n) : PairsAt w (.slice o (l.take k).length c) (l.take k) := by
  obtain ⟨hl, o', c', hv, h1, h2, h3, h4⟩ := h
  cases hv
  have hlen : (pairCells l).length = l.length * 2 := by simp [pairCells, List.length_flatMap, List.map_const', List.sum_replicate_nat]
  have hlen2 : (pairCells (l.take k)).length = (l.take k).length * 2 := by simp [pairCells, List.length_flatMap, List.map_const', List.sum_replicate_nat]
  refine ⟨hlen2, o, c, rfl, by simp; omega, h2, h3, fun a ha => ⟨(h4 a ha).1, fun j u hj => (h4 a ha).2 j u ?_⟩⟩
  have e : pairCells l = pairCells (l.take k) ++ pairCells (l.drop k) := by
    unfold pairCells
    rw [← List.flatMap_append, List.take_append_drop]
  rw [e, List.getElem?_append_left (List.getElem?_eq_some_iff.1 hj).1]
  exact hj

theorem triples_nil (w : World) : TriplesAt w (.slice none 0 0) [] := ⟨rfl, none, 0, rfl, Nat.le_refl _, by decide, fun _ => rfl, fun a h => by cases h⟩

theorem gen_world {P : Program} {c : Code} {Q : Exit → Act → World → Prop} {a : Act} {W : World} (h : ∀ W', W' = W → Code.wp P c Q a W') : Code.wp P c Q a W := h W rfl
theorem heap_at (w : World) (A : Obj) (k : Nat) (h : k = w.heap.size) : (w.alloc A).heap[k]? = some A := by subst h; exact heap_new0 _ _

theorem make_six (W : World) : (Instr.makeSlice 38 (.int .i64 6) (.int .i64 6)).run Try.prog W = .ok (.slice (some ⟨W.heap.size, 0, none⟩) 6 6) (W.alloc (.cells (tripleCells [(0, 0, 0), (0, 0, 0), (0, 0, 0), (0, 0, 0), (0, 0, 0), (0, 0, 0)]).toArray 104)) := by
  obtain ⟨i, hi, hz, hs, hby⟩ := info_parts tTriples.info
  have := run_make (P := Try.prog) W 38 104 i (xv (0, 0, 0)) tTriples.und hi hz .i64 .i64 6 6 (by omega) (Int.le_refl _) (by rw [hby]; omega) (by omega)
  rw [this, hs]
  have e : madeCells (xv (0, 0, 0)).cells (Int.toNat 6 * 3) = (tripleCells [(0, 0, 0), (0, 0, 0), (0, 0, 0), (0, 0, 0), (0, 0, 0), (0, 0, 0)]).toArray := by kernel_rfl
  rw [e]
  rfl

theorem hv_inj {h : HeapD} {a b c a' b' c' : Value} (he : hv h a b c = hv h a' b' c') : a = a' ∧ b = b' ∧ c = c' := by
  have := he
  simp only [hv, Value.agg.injEq, Array.mk.injEq, List.cons.injEq, and_true, true_and] at this
  exact this

theorem slice_int_to (b off n c k : Nat) (hk : k ≤ n) (hn : n ≤ c) (hc : c ≠ 0) (W : World) :
    (Instr.slice 25 (.slice (some ⟨b, off, none⟩) n c) none (some (.int .i64 (k : Int))) none).run Try.prog W = .ok (.slice (some ⟨b, off, none⟩) k c) W := by
  have := run_slice_h (P := Try.prog) W 25 (some ⟨b, off, none⟩) n c (by kernel_rfl) .i64 (k : Int) (by omega) (by omega)
  rw [this]
  simp [go_sem, sliced, hc]

theorem ints_take {w : World} {o : Option Addr} {n c : Nat} {l : List Int} (h : SlAt 1 w (.slice o n c) n (intCells l)) (k : Nat) (hk : k ≤ n) : IntsAt w (.slice o (l.take k).length c) (l.take k) := by
  obtain ⟨hl, o', c', hv, h1, h2, h3, h4⟩ := h
  cases hv
  have hlen : (intCells l).length = l.length := by simp [intCells]
  refine ⟨by simp [intCells], o, c, rfl, by simp; omega, h2, h3, fun a ha => ⟨(h4 a ha).1, fun j u hj => (h4 a ha).2 j u ?_⟩⟩
  have e : intCells l = intCells (l.take k) ++ intCells (l.drop k) := by
    unfold intCells
    rw [← List.map_append, List.take_append_drop]
  rw [e, List.getElem?_append_left (List.getElem?_eq_some_iff.1 hj).1]
  exact hj

theorem ints_new2 (W : World) (x y : Int) : IntsAt (W.alloc (.cells #[iv x, iv y] 3)) (.slice (some ⟨W.heap.size, 0, none⟩) 2 2) [x, y] := SlAt.of_block 1 2 (heap_new0 _ _) rfl (by decide)

theorem own_open {w : World} {base : Nat} {e : TypeId} {size : Nat} {v : Value} {n : Nat} {xs : List Value} (hn : 0 < n) (h : w.ownsRow base e size v n xs) :
    ∃ g c cs, v = .slice (some ⟨g, 0, none⟩) n c ∧ n ≤ c ∧ c ≤ maxLen ∧ base ≤ g ∧ w.heap[g]? = some (.cells cs e (0, 0)) ∧ cs.size = c * size ∧ cs.toList.take (n * size) = xs := by
  obtain ⟨h1, ⟨rfl, rfl⟩ | ⟨g, c, cs, rfl, hb, hc, h2, h3, h4, h5⟩⟩ := h
  · omega
  · exact ⟨g, c, cs, rfl, h2, h3, hb, hc, h4, h5⟩

theorem slice_pair_to (b off n c k : Nat) (hk : k ≤ n) (hn : n ≤ c) (hc : c ≠ 0) (W : World) :
    (Instr.slice 37 (.slice (some ⟨b, off, none⟩) n c) none (some (.int .i64 (k : Int))) none).run Try.prog W = .ok (.slice (some ⟨b, off, none⟩) k c) W := by
  have := run_slice_h (P := Try.prog) W 37 (some ⟨b, off, none⟩) n c (by kernel_rfl) .i64 (k : Int) (by omega) (by omega)
  rw [this]
  simp [go_sem, sliced, hc]

set_option maxHeartbeats 8000000 in
theorem names_any (w : World) : Calls Try.prog 17 #[] w (PV (.bool true) w) := by
  go_enter Try.func17, Try.ntmps17
  go_wp2_with fail
  -- Play
  refine (one_any 0 (by omega) _).mono ?_
  rintro e A1 ⟨a1, b1, c1, rfl, hw1, ht1, hx1, hb⟩
  have HA1 := Lib.hid hb
  have HS1 := Lib.hid (And.intro hw1 (And.intro ht1 hx1))
  clear hb hw1 ht1 hx1
  go_wp2_with fail
  refine (first_any _).mono ?_
  rintro e W1 ⟨v1, rfl, hv1, hb⟩
  have HB1 := Lib.hid hb
  have HV1 := Lib.hid hv1
  clear hb hv1
  go_wp2_with fail
  refine (Play_any (oneH 0) a1 b1 c1 v1 (.slice none 0 0) 30 [10, 10, 12, 8, 10] [] _ (HS1.out.1.below HB1.out (Nat.le_refl _)) (HS1.out.2.1.below HB1.out (Nat.le_refl _)) (HS1.out.2.2.below HB1.out (Nat.le_refl _)) HV1.out (ints_nil _)).mono ?_
  rintro e W2 ⟨l, rfl, hl, hb⟩
  rw [nm_playErr, nm_playOut] at *
  have hl' : IntsAt W2 l [40, 50, 62, 70, 80] := SlAt.of_owns hl
  obtain ⟨lo, lc, rfl⟩ := hl'.open
  replace hl' : IntsAt W2 (.slice lo 5 lc) [40, 50, 62, 70, 80] := hl'
  have HL := Lib.hid hl'
  have HB2 := Lib.hid (show Below w.heap.size w W2 from bgo (bgo HA1.out HB1.out) hb)
  clear hl hl' hb HA1 HS1 HB1 HV1
  go_wp2_with fail
  -- Keeps
  refine (one_any 0 (by omega) _).mono ?_
  rintro e A2 ⟨a2, b2, c2, rfl, hw2, ht2, hx2, hb⟩
  have HA2 := Lib.hid hb
  have HS2 := Lib.hid (And.intro hw2 (And.intro ht2 hx2))
  clear hb hw2 ht2 hx2
  go_wp2_with fail
  refine (Keeps_any (oneH 0) a2 b2 c2 (.slice none 0 0) [] _ HS2.out.1 HS2.out.2.1 HS2.out.2.2 (ints_nil _)).mono ?_
  rintro e W3 ⟨rfl, hb⟩
  rw [nm_keeps0, ev_ask0] at *
  have HB3 := Lib.hid (show Below W2.heap.size W2 W3 from bgo HA2.out hb)
  clear hb HA2 HS2
  go_wp2_with fail
  refine (one_any 0 (by omega) _).mono ?_
  rintro e A3 ⟨a3, b3, c3, rfl, hw3, ht3, hx3, hb⟩
  have HA3 := Lib.hid hb
  have HS3 := Lib.hid (And.intro hw3 (And.intro ht3 hx3))
  clear hb hw3 ht3 hx3
  go_wp2_with fail
  refine (Keeps_any (oneH 0) a3 b3 c3 (.slice (some ⟨A3.heap.size, 0, none⟩) 1 1) [2] _ (HS3.out.1.alloc _) (HS3.out.2.1.alloc _) (HS3.out.2.2.alloc _) (ints_new1 _ _)).mono ?_
  rintro e W4 ⟨rfl, hb⟩
  rw [nm_keeps2.1, nm_keeps2.2] at *
  have HB4 := Lib.hid (show Below W3.heap.size W3 W4 from bgo (bgoAlloc HA3.out _) hb)
  clear hb HA3 HS3
  go_wp2_with fail
  -- Fear
  refine (one_any 0 (by omega) _).mono ?_
  rintro e A4 ⟨a4, b4, c4, rfl, hw4, ht4, hx4, hb⟩
  have HA4 := Lib.hid hb
  have HS4 := Lib.hid (And.intro hw4 (And.intro ht4 hx4))
  clear hb hw4 ht4 hx4
  go_wp2_with fail
  refine (Fear_any (oneH 0) a4 b4 c4 (.slice none 0 0) [] _ HS4.out.1 HS4.out.2.1 HS4.out.2.2 (ints_nil _)).mono ?_
  rintro e W5 ⟨rfl, hb⟩
  rw [nm_fear0.1, nm_fear0.2] at *
  have HB5 := Lib.hid (show Below W4.heap.size W4 (W5.alloc (.cells #[iv 2, .bool true, .bool false] 32)) from bgoAlloc (bgo HA4.out hb) _)
  have HD5 := Lib.hid (heap_new0 W5 (.cells #[iv 2, .bool true, .bool false] 32))
  clear hb HA4 HS4
  go_wp2_with fail
  refine (one_any 0 (by omega) _).mono ?_
  rintro e A5 ⟨a5, b5, c5, rfl, hw5, ht5, hx5, hb⟩
  have HA5 := Lib.hid hb
  have HS5 := Lib.hid (And.intro hw5 (And.intro ht5 hx5))
  clear hb hw5 ht5 hx5
  go_wp2_with fail
  refine (Fear_any (oneH 0) a5 b5 c5 (.slice (some ⟨A5.heap.size, 0, none⟩) 1 1) [2] _ (HS5.out.1.alloc _) (HS5.out.2.1.alloc _) (HS5.out.2.2.alloc _) (ints_new1 _ _)).mono ?_
  rintro e W6 ⟨rfl, hb⟩
  rw [nm_fear2.1, nm_fear2.2] at *
  have HB6 := Lib.hid (show Below (W5.alloc (.cells #[iv 2, .bool true, .bool false] 32)).heap.size (W5.alloc (.cells #[iv 2, .bool true, .bool false] 32)) (W6.alloc (.cells #[iv 0, .bool false, .bool false] 32)) from bgoAlloc (bgo (bgoAlloc HA5.out _) hb) _)
  clear hb HA5 HS5
  go_wp2_with fail
  -- Leave
  refine (one_any 1 (by omega) _).mono ?_
  rintro e A6 ⟨a6, b6, c6, rfl, hw6, ht6, hx6, hb⟩
  have HA6 := Lib.hid hb
  have HS6 := Lib.hid (And.intro hw6 (And.intro ht6 hx6))
  clear hb hw6 ht6 hx6
  go_wp2_with fail
  refine (Leave_any (oneH 1) a6 b6 c6 _ HS6.out.1 HS6.out.2.1 HS6.out.2.2).mono ?_
  rintro e W7 ⟨ov, rfl, hov, hb⟩
  rw [nm_leave.1, nm_leave.2] at *
  obtain ⟨oo, oc, rfl⟩ := SlAt.open hov
  have HB7 := Lib.hid (bgo HA6.out hb)
  clear hb hov HA6 HS6
  have h67 := bgo HB6.out HB7.out
  have h27 := bgo HB3.out (bgo HB4.out (bgo HB5.out h67))
  have h07 := bgo HB2.out h27
  have hL := HL.out.below h27 (Nat.le_refl _)
  have hD := (h67.block W5.heap.size (by simp)).trans HD5.out
  have HF := Lib.hid (And.intro hL (And.intro h07 hD))
  clear HB2 HB3 HB4 HB5 HB6 HB7 HD5 HL h67 h27 h07 hL hD
  go_wp2_with fail
  refine (ints_any [40, 50, 62, 70, 80] [40, 50, 62, 70, 80] _ _ _ (HF.out.1.alloc _) (SlAt.of_block 1 5 (heap_new0 W7 (.cells #[iv 40, iv 50, iv 62, iv 70, iv 80] 3)) rfl (by decide))).mono ?_
  rintro e W8 ⟨rfl, hb⟩
  rw [beq_self_eq_true]
  have hD8 := (hb.block W5.heap.size (by have := (Array.getElem?_eq_some_iff.1 HF.out.2.2).1; simp; omega)).trans ((Below.heap_alloc _ _ _ (Array.getElem?_eq_some_iff.1 HF.out.2.2).1).trans HF.out.2.2)
  have hgD : ∀ i, W8.cell? ⟨W5.heap.size, i, none⟩ = (#[iv 2, .bool true, .bool false] : Array Value)[i]? := fun i => by
    simp only [World.cell?, hD8]; rfl
  have sD := (Array.getElem?_eq_some_iff.1 hD8).1
  have HB8 := Lib.hid (show Below w.heap.size w W8 from bgo (bgoAlloc HF.out.2.1 _) hb)
  clear HF hb hD8
  go_wp2_with fail
  clear hgD
  -- ProveTruth
  refine (one_any 0 (by omega) _).mono ?_
  rintro e A7 ⟨a7, b7, c7, rfl, hw7, ht7, hx7, hb⟩
  have HA7 := Lib.hid hb
  have HS7 := Lib.hid (And.intro hw7 (And.intro ht7 hx7))
  clear hb hw7 ht7 hx7
  go_wp2_with fail
  refine (first_any _).mono ?_
  rintro e W9 ⟨v2, rfl, hv2, hb⟩
  have HB9 := Lib.hid hb
  have HV2 := Lib.hid hv2
  clear hb hv2
  go_wp2_with fail
  refine (ProveTruth_any (oneH 0) a7 b7 c7 v2 30 [10, 10, 12, 8, 10] _ (HS7.out.1.below HB9.out (Nat.le_refl _)) (HS7.out.2.1.below HB9.out (Nat.le_refl _)) (HS7.out.2.2.below HB9.out (Nat.le_refl _)) HV2.out).mono ?_
  rintro e W10 ⟨rfl, hb⟩
  rw [nm_truth0]
  have HB10 := Lib.hid (show Below w.heap.size w W10 from bgo (bgo (bgo HB8.out HA7.out) HB9.out) hb)
  clear hb HB8 HA7 HS7 HB9 HV2
  go_wp2_with fail
  refine (one_any 1 (by omega) _).mono ?_
  rintro e A8 ⟨a8, b8, c8, rfl, hw8, ht8, hx8, hb⟩
  have HA8 := Lib.hid hb
  have HS8 := Lib.hid (And.intro hw8 (And.intro ht8 hx8))
  clear hb hw8 ht8 hx8
  go_wp2_with fail
  refine (first_any _).mono ?_
  rintro e W11 ⟨v3, rfl, hv3, hb⟩
  have HB11 := Lib.hid hb
  have HV3 := Lib.hid hv3
  clear hb hv3
  go_wp2_with fail
  refine (ProveTruth_any (oneH 1) a8 b8 c8 v3 30 [10, 10, 12, 8, 10] _ (HS8.out.1.below HB11.out (Nat.le_refl _)) (HS8.out.2.1.below HB11.out (Nat.le_refl _)) (HS8.out.2.2.below HB11.out (Nat.le_refl _)) HV3.out).mono ?_
  rintro e W12 ⟨rfl, hb⟩
  rw [nm_truth1]
  have HB12 := Lib.hid (show Below w.heap.size w W12 from bgo (bgo (bgo HB10.out HA8.out) HB11.out) hb)
  clear hb HB10 HA8 HS8 HB11 HV3
  go_wp2_with fail
  -- ProveKeeps
  refine (one_any 1 (by omega) _).mono ?_
  rintro e A9 ⟨a9, b9, c9, rfl, hw9, ht9, hx9, hb⟩
  have HA9 := Lib.hid hb
  have HS9 := Lib.hid (And.intro hw9 (And.intro ht9 hx9))
  clear hb hw9 ht9 hx9
  go_wp2_with fail
  refine (ProveKeeps_any (oneH 1) a9 b9 c9 (.slice (some ⟨A9.heap.size, 0, none⟩) 1 1) [2] _ (HS9.out.1.alloc _) (HS9.out.2.1.alloc _) (HS9.out.2.2.alloc _) (ints_new1 _ _)).mono ?_
  rintro e W13 ⟨rfl, hb⟩
  rw [nm_pk1]
  have HB13 := Lib.hid (show Below w.heap.size w W13 from bgo (bgoAlloc (bgo HB12.out HA9.out) _) hb)
  clear hb HB12 HA9 HS9
  go_wp2_with fail
  refine (one_any 0 (by omega) _).mono ?_
  rintro e A10 ⟨a10, b10, c10, rfl, hw10, ht10, hx10, hb⟩
  have HA10 := Lib.hid hb
  have HS10 := Lib.hid (And.intro hw10 (And.intro ht10 hx10))
  clear hb hw10 ht10 hx10
  go_wp2_with fail
  refine (ProveKeeps_any (oneH 0) a10 b10 c10 (.slice (some ⟨A10.heap.size, 0, none⟩) 1 1) [1] _ (HS10.out.1.alloc _) (HS10.out.2.1.alloc _) (HS10.out.2.2.alloc _) (ints_new1 _ _)).mono ?_
  rintro e W14 ⟨rfl, hb⟩
  rw [nm_pk0]
  have HB14 := Lib.hid (show Below w.heap.size w W14 from bgo (bgoAlloc (bgo HB13.out HA10.out) _) hb)
  clear hb HB13 HA10 HS10
  go_wp2_with fail
  -- late, few
  refine (first_any _).mono ?_
  rintro e W15 ⟨v4, rfl, hv4, hb⟩
  obtain ⟨o4, k4, rfl⟩ := SlAt.open hv4
  replace hv4 : IntsAt W15 (.slice o4 5 k4) [10, 10, 12, 8, 10] := hv4
  have HB15 := Lib.hid hb
  have HV4 := Lib.hid hv4
  clear hb hv4
  go_wp2_with fail
  refine (first_any _).mono ?_
  rintro e W16 ⟨v5, rfl, hv5, hb⟩
  obtain ⟨o5, k5, rfl⟩ := SlAt.open hv5
  replace hv5 : IntsAt W16 (.slice o5 5 k5) [10, 10, 12, 8, 10] := hv5
  obtain ⟨b5', off5, rfl, _, _⟩ := IntsAt.cell (l := [10, 10, 12, 8, 10]) (n := 5) hv5 (k := 0) (by simp)
  have hk5 : 5 ≤ k5 := by
    obtain ⟨_, o', c2, hv, hh, _⟩ := hv5
    cases hv
    exact hh
  have hsl5 : ∀ W, (Instr.slice 25 (.slice (some ⟨b5', off5, none⟩) 5 k5) none (some (.int .i64 4)) none).run Try.prog W = .ok (.slice (some ⟨b5', off5, none⟩) 4 k5) W := fun W => slice_int_to b5' off5 5 k5 4 (by omega) hk5 (by omega) W
  have hv5' : IntsAt W16 (.slice (some ⟨b5', off5, none⟩) 4 k5) [10, 10, 12, 8] := ints_take (l := [10, 10, 12, 8, 10]) (n := 5) hv5 4 (by omega)
  have HB16 := Lib.hid (show Below w.heap.size w W16 from bgo (bgo HB14.out HB15.out) hb)
  have HV45 := Lib.hid (And.intro (HV4.out.below hb (Nat.le_refl _)) hv5')
  clear hb hv5 hv5' HB14 HB15 HV4
  go_wp2_with fail
  obtain ⟨W17, hW17⟩ : ∃ W17, ((W16.alloc (.cells #[iv 33, .slice o4 5 k4] 71)).alloc (.cells #[iv 30, .slice (some ⟨b5', off5, none⟩) 4 k5] 71)) = W17 := ⟨_, rfl⟩
  rw [hW17]
  have hB17 : Below W16.heap.size W16 W17 := by rw [← hW17]; exact bgoAlloc (bgoAlloc (Below.refl _ _) _) _
  have hbl : W17.heap[W16.heap.size]? = some (.cells #[iv 33, .slice o4 5 k4] 71 (0, 0)) := by rw [← hW17]; exact (Below.heap_alloc _ _ _ (by first | omega | (simp; done) | (simp; omega))).trans (heap_new0 _ _)
  have hbf : W17.heap[W16.heap.size + 1]? = some (.cells #[iv 30, .slice (some ⟨b5', off5, none⟩) 4 k5] 71 (0, 0)) := by rw [← hW17]; exact heap_new1 _ _ _
  have hgl : ∀ i, W17.cell? ⟨W16.heap.size, i, none⟩ = (#[iv 33, .slice o4 5 k4] : Array Value)[i]? := fun i => by
    simp only [World.cell?, hbl]; rfl
  have s17 := (Array.getElem?_eq_some_iff.1 hbl).1
  have s17' := (Array.getElem?_eq_some_iff.1 hbf).1
  have HVV := HV45.out.1.below hB17 (Nat.le_refl _)
  have HV5 := Lib.hid (HV45.out.2.below hB17 (Nat.le_refl _))
  have HBF := Lib.hid hbf
  have HB17 := Lib.hid (bgo HB16.out hB17)
  clear hW17 hB17 hbl hbf HB16 HV45
  refine wp_region_rg 7 [] none [(0, ⟨fun _ v => ∃ a b c, v = hv (oneH 0) a b c, fun _ v W => ∃ a b c, v = hv (oneH 0) a b c ∧ PairsAt W a (oneH 0).wet ∧ IntsAt W b (oneH 0).turns ∧ TriplesAt W c (oneH 0).readings⟩), (2, ⟨fun _ v => ∃ x, v = .tuple #[x, iv 2], fun _ _ _ => True⟩)] (by kernel_rfl) (by kernel_rfl) ?_
  simp only [List.take_succ_cons, List.take_zero, List.drop_succ_cons, List.drop_zero]
  refine tree_some _ (by rfl) (by rfl) (by exact ⟨_, undef, undef, undef, rfl⟩) (fun W hE hF => ?_) (fun v Wa Wb ho hE => ?_) (fun v hv => ?_)
  · refine does_enter 61 #[iv 0] (by go_simp; try rfl) ?_
    refine (one_any 0 (by omega) W).mono ?_
    rintro e W' ⟨a, b, c, rfl, h1, h2, h3, hb⟩
    exact ⟨_, rfl, ⟨a, b, c, rfl⟩, ⟨a, b, c, rfl, h1, h2, h3⟩, Ext.of_below hb⟩
  · obtain ⟨a, b, c, hv, h1, h2, h3⟩ := ho
    have hB := Ext.below (show Ext [] Wa Wb from hE)
    exact ⟨a, b, c, hv, h1.below hB (Nat.le_refl _), h2.below hB (Nat.le_refl _), h3.below hB (Nat.le_refl _)⟩
  obtain ⟨a11, b11, c11, rfl⟩ := hv
  simp only [Act.put, List.setIfInBounds_toArray, List.set_cons_succ, List.set_cons_zero]
  repeat (first | (refine tree_det (by rfl) _ (by rfl) (fun W hW => by go_simp; (try simp (disch := omega) only [IntWalk.i64_in, Int.tdiv_eq_ediv_of_nonneg]); try rfl) ?_; simp only [Act.put, List.setIfInBounds_toArray, List.set_cons_succ, List.set_cons_zero]) | (refine tree_skip (by rfl) (by rfl) ?_; simp only [Act.put, List.setIfInBounds_toArray, List.set_cons_succ, List.set_cons_zero]))
  refine tree_some _ (by rfl) (by rfl) (by exact ⟨_, undef, rfl⟩) (fun W hE hF => ?_) (fun _ _ _ _ _ => trivial) (fun v hv => ?_)
  · have hE' : Ext [] W17 W := hE
    obtain ⟨a', b', c', he, h1, h2, h3⟩ := hF _ (List.Mem.head _) (by kernel_rfl)
    obtain ⟨rfl, rfl, rfl⟩ := hv_inj he
    refine does_enter 40 #[hv (oneH 0) a11 b11 c11, .agg #[iv 33, (.slice o4 5 k4)], .slice none 0 0] (by go_simp; try rfl) ?_
    refine (Play_any (oneH 0) a11 b11 c11 (.slice o4 5 k4) (.slice none 0 0) 33 [10, 10, 12, 8, 10] [] W h1 h2 h3 (SlAt.below HVV hE'.below (Nat.le_refl _)) (ints_nil _)).mono ?_
    rintro e W' ⟨x, rfl, _, hb⟩
    exact ⟨_, rfl, ⟨x, by rw [nm_late]⟩, trivial, Ext.of_below hb⟩
  obtain ⟨x, rfl⟩ := hv
  simp only [Act.put, List.setIfInBounds_toArray, List.set_cons_succ, List.set_cons_zero]
  repeat (first | (refine tree_det (by rfl) _ (by rfl) (fun W hW => by go_simp; (try simp (disch := omega) only [IntWalk.i64_in, Int.tdiv_eq_ediv_of_nonneg]); try rfl) ?_; simp only [Act.put, List.setIfInBounds_toArray, List.set_cons_succ, List.set_cons_zero]) | (refine tree_skip (by rfl) (by rfl) ?_; simp only [Act.put, List.setIfInBounds_toArray, List.set_cons_succ, List.set_cons_zero]))
  intro W18 hE18 hF18
  have hE : Ext [] W17 W18 := hE18
  have hbf := (hE.block _ s17' (by simp)).trans HBF.out
  have hgf : ∀ i, W18.cell? ⟨W16.heap.size + 1, i, none⟩ = (#[iv 30, .slice (some ⟨b5', off5, none⟩) 4 k5] : Array Value)[i]? := fun i => by
    simp only [World.cell?, hbf]; rfl
  have s18 := (Array.getElem?_eq_some_iff.1 hbf).1
  have hvv5 := HV5.out.below hE.below (Nat.le_refl _)
  have HB18 := Lib.hid (bgo HB17.out hE.below)
  clear hE18 hF18 hE hbf hgl HVV HB17 HBF HV5
  go_wp2_with fail
  refine wp_region_rg 7 [] none [(0, ⟨fun _ v => ∃ a b c, v = hv (oneH 0) a b c, fun _ v W => ∃ a b c, v = hv (oneH 0) a b c ∧ PairsAt W a (oneH 0).wet ∧ IntsAt W b (oneH 0).turns ∧ TriplesAt W c (oneH 0).readings⟩), (2, ⟨fun _ v => ∃ x, v = .tuple #[x, iv 2], fun _ _ _ => True⟩)] (by kernel_rfl) (by kernel_rfl) ?_
  simp only [List.take_succ_cons, List.take_zero, List.drop_succ_cons, List.drop_zero]
  refine tree_some _ (by rfl) (by rfl) (by exact ⟨_, undef, undef, undef, rfl⟩) (fun W hE hF => ?_) (fun v Wa Wb ho hE => ?_) (fun v hv => ?_)
  · refine does_enter 61 #[iv 0] (by go_simp; try rfl) ?_
    refine (one_any 0 (by omega) W).mono ?_
    rintro e W' ⟨a, b, c, rfl, h1, h2, h3, hb⟩
    exact ⟨_, rfl, ⟨a, b, c, rfl⟩, ⟨a, b, c, rfl, h1, h2, h3⟩, Ext.of_below hb⟩
  · obtain ⟨a, b, c, hv, h1, h2, h3⟩ := ho
    have hB := Ext.below (show Ext [] Wa Wb from hE)
    exact ⟨a, b, c, hv, h1.below hB (Nat.le_refl _), h2.below hB (Nat.le_refl _), h3.below hB (Nat.le_refl _)⟩
  obtain ⟨a12, b12, c12, rfl⟩ := hv
  simp only [Act.put, List.setIfInBounds_toArray, List.set_cons_succ, List.set_cons_zero]
  repeat (first | (refine tree_det (by rfl) _ (by rfl) (fun W hW => by go_simp; (try simp (disch := omega) only [IntWalk.i64_in, Int.tdiv_eq_ediv_of_nonneg]); try rfl) ?_; simp only [Act.put, List.setIfInBounds_toArray, List.set_cons_succ, List.set_cons_zero]) | (refine tree_skip (by rfl) (by rfl) ?_; simp only [Act.put, List.setIfInBounds_toArray, List.set_cons_succ, List.set_cons_zero]))
  refine tree_some _ (by rfl) (by rfl) (by exact ⟨_, undef, rfl⟩) (fun W hE hF => ?_) (fun _ _ _ _ _ => trivial) (fun v hv => ?_)
  · have hE' : Ext [] W18 W := hE
    obtain ⟨a', b', c', he, h1, h2, h3⟩ := hF _ (List.Mem.head _) (by kernel_rfl)
    obtain ⟨rfl, rfl, rfl⟩ := hv_inj he
    refine does_enter 40 #[hv (oneH 0) a12 b12 c12, .agg #[iv 30, (.slice (some ⟨b5', off5, none⟩) 4 k5)], .slice none 0 0] (by go_simp; try rfl) ?_
    refine (Play_any (oneH 0) a12 b12 c12 (.slice (some ⟨b5', off5, none⟩) 4 k5) (.slice none 0 0) 30 [10, 10, 12, 8] [] W h1 h2 h3 (SlAt.below hvv5 hE'.below (Nat.le_refl _)) (ints_nil _)).mono ?_
    rintro e W' ⟨x, rfl, _, hb⟩
    exact ⟨_, rfl, ⟨x, by rw [nm_few]⟩, trivial, Ext.of_below hb⟩
  obtain ⟨x, rfl⟩ := hv
  simp only [Act.put, List.setIfInBounds_toArray, List.set_cons_succ, List.set_cons_zero]
  repeat (first | (refine tree_det (by rfl) _ (by rfl) (fun W hW => by go_simp; (try simp (disch := omega) only [IntWalk.i64_in, Int.tdiv_eq_ediv_of_nonneg]); try rfl) ?_; simp only [Act.put, List.setIfInBounds_toArray, List.set_cons_succ, List.set_cons_zero]) | (refine tree_skip (by rfl) (by rfl) ?_; simp only [Act.put, List.setIfInBounds_toArray, List.set_cons_succ, List.set_cons_zero]))
  intro W19 hE19 hF19
  have hE : Ext [] W18 W19 := hE19
  have HB19 := Lib.hid (bgo HB18.out hE.below)
  clear hE19 hF19 hE hgf HB18 hvv5 hsl5
  go_wp2_with fail
  -- Play, [5]
  refine (one_any 0 (by omega) _).mono ?_
  rintro e A13 ⟨a13, b13, c13, rfl, hw13, ht13, hx13, hb⟩
  have HA13 := Lib.hid hb
  have HS13 := Lib.hid (And.intro hw13 (And.intro ht13 hx13))
  clear hb hw13 ht13 hx13
  go_wp2_with fail
  refine (first_any _).mono ?_
  rintro e W20 ⟨v6, rfl, hv6, hb⟩
  have HB20 := Lib.hid hb
  have HV6 := Lib.hid hv6
  clear hb hv6
  go_wp2_with fail
  refine (Play_any (oneH 0) a13 b13 c13 v6 (.slice (some ⟨W20.heap.size, 0, none⟩) 1 1) 30 [10, 10, 12, 8, 10] [5] _ ((HS13.out.1.below HB20.out (Nat.le_refl _)).alloc _) ((HS13.out.2.1.below HB20.out (Nat.le_refl _)).alloc _) ((HS13.out.2.2.below HB20.out (Nat.le_refl _)).alloc _) (HV6.out.alloc _) (ints_new1 _ _)).mono ?_
  rintro e W21 ⟨l6, rfl, _, hb⟩
  rw [nm_five]
  have HB21 := Lib.hid (show Below w.heap.size w W21 from bgo (bgoAlloc (bgo (bgo HB19.out HA13.out) HB20.out) _) hb)
  clear hb HB19 HA13 HS13 HB20 HV6
  go_wp2_with fail
  -- Bounds
  refine (one_any 2 (by omega) _).mono ?_
  rintro e A14 ⟨a14, b14, c14, rfl, hw14, ht14, hx14, hb⟩
  have HA14 := Lib.hid hb
  have HS14 := Lib.hid (And.intro hw14 (And.intro ht14 hx14))
  clear hb hw14 ht14 hx14
  go_wp2_with fail
  refine (Bounds_any (oneH 2) a14 b14 c14 (.slice (some ⟨A14.heap.size, 0, none⟩) 2 2) [2, 1] _ (HS14.out.1.alloc _) (HS14.out.2.1.alloc _) (HS14.out.2.2.alloc _) (ints_new2 _ _ _)).mono ?_
  rintro e W22 ⟨l7, rfl, _, hb⟩
  rw [nm_b1]
  have HB22 := Lib.hid (show Below w.heap.size w W22 from bgo (bgoAlloc (bgo HB21.out HA14.out) _) hb)
  clear hb HB21 HA14 HS14
  go_wp2_with fail
  refine (one_any 2 (by omega) _).mono ?_
  rintro e A15 ⟨a15, b15, c15, rfl, hw15, ht15, hx15, hb⟩
  have HA15 := Lib.hid hb
  have HS15 := Lib.hid (And.intro hw15 (And.intro ht15 hx15))
  clear hb hw15 ht15 hx15
  go_wp2_with fail
  refine (Bounds_any (oneH 2) a15 b15 c15 (.slice none 0 0) [] _ HS15.out.1 HS15.out.2.1 HS15.out.2.2 (ints_nil _)).mono ?_
  rintro e W23 ⟨l8, rfl, _, hb⟩
  rw [nm_b2]
  have HB23 := Lib.hid (show Below w.heap.size w W23 from bgo (bgo HB22.out HA15.out) hb)
  clear hb HB22 HA15 HS15
  go_wp2_with fail
  -- Fear
  refine (one_any 2 (by omega) _).mono ?_
  rintro e A16 ⟨a16, b16, c16, rfl, hw16, ht16, hx16, hb⟩
  have HA16 := Lib.hid hb
  have HS16 := Lib.hid (And.intro hw16 (And.intro ht16 hx16))
  clear hb hw16 ht16 hx16
  go_wp2_with fail
  refine (Fear_any (oneH 2) a16 b16 c16 (.slice none 0 0) [] _ HS16.out.1 HS16.out.2.1 HS16.out.2.2 (ints_nil _)).mono ?_
  rintro e W24 ⟨rfl, hb⟩
  rw [nm_f2]
  have HB24 := Lib.hid (show Below w.heap.size w W24 from bgo (bgo HB23.out HA16.out) hb)
  clear hb HB23 HA16 HS16
  go_wp2_with fail
  -- First
  refine (one_any 1 (by omega) _).mono ?_
  rintro e A17 ⟨a17, b17, c17, rfl, hw17, ht17, hx17, hb⟩
  have HA17 := Lib.hid hb
  have HS17 := Lib.hid (And.intro hw17 (And.intro ht17 hx17))
  clear hb hw17 ht17 hx17
  go_wp2_with fail
  refine (First_any (oneH 1) a17 b17 c17 _ HS17.out.1 HS17.out.2.1 HS17.out.2.2).mono ?_
  rintro e W25 ⟨rfl, hb⟩
  rw [nm_first]
  have HB25 := Lib.hid (show Below w.heap.size w W25 from bgo (bgo HB24.out HA17.out) hb)
  clear hb HB24 HA17 HS17
  go_wp2_with fail
  -- cold
  refine (one_any 0 (by omega) _).mono ?_
  rintro e A18 ⟨a18, b18, c18, rfl, hw18, ht18, hx18, hb⟩
  obtain ⟨ao18, ac18, rfl⟩ := hw18.open
  obtain ⟨bo18, bc18, rfl⟩ := ht18.open
  obtain ⟨co18, cc18, rfl⟩ := hx18.open
  have HA18 := Lib.hid hb
  have HS18 := Lib.hid (And.intro hw18 (And.intro ht18 hx18))
  clear hb hw18 ht18 hx18
  go_wp2_with fail
  refine (Fewest_any coldH (.slice ao18 (oneH 0).wet.length ac18) (.slice bo18 (oneH 0).turns.length bc18) (.slice co18 (oneH 0).readings.length cc18) _ (HS18.out.1.alloc _) (HS18.out.2.1.alloc _) (HS18.out.2.2.alloc _)).mono ?_
  rintro e W26 ⟨l9, rfl, _, hb⟩
  rw [nm_cold]
  have HB26 := Lib.hid (show Below w.heap.size w W26 from bgo (bgoAlloc (bgo HB25.out HA18.out) _) hb)
  clear hb HB25 HA18 HS18
  go_wp2_with fail
  -- nine heaps
  refine (one_any 1 (by omega) _).mono ?_
  rintro e A19 ⟨a19, b19, c19, rfl, hw19, ht19, hx19, hb⟩
  obtain ⟨ao19, ac19, rfl⟩ := hw19.open
  obtain ⟨bo19, bc19, rfl⟩ := ht19.open
  obtain ⟨co19, cc19, rfl⟩ := hx19.open
  have HA19 := Lib.hid hb
  have HS19 := Lib.hid (And.intro hw19 (And.intro ht19 hx19))
  clear hb hw19 ht19 hx19
  go_wp2_with fail
  refine (one_any 1 (by omega) _).mono ?_
  rintro e A20 ⟨a20, b20, c20, rfl, hw20, ht20, hx20, hb⟩
  obtain ⟨ao20, ac20, rfl⟩ := hw20.open
  obtain ⟨bo20, bc20, rfl⟩ := ht20.open
  obtain ⟨co20, cc20, rfl⟩ := hx20.open
  have HA20 := Lib.hid hb
  have HS20 := Lib.hid (And.intro hw20 (And.intro ht20 hx20))
  clear hb hw20 ht20 hx20
  go_wp2_with fail
  refine (one_any 1 (by omega) _).mono ?_
  rintro e A21 ⟨a21, b21, c21, rfl, hw21, ht21, hx21, hb⟩
  obtain ⟨ao21, ac21, rfl⟩ := hw21.open
  obtain ⟨bo21, bc21, rfl⟩ := ht21.open
  obtain ⟨co21, cc21, rfl⟩ := hx21.open
  have HA21 := Lib.hid hb
  have HS21 := Lib.hid (And.intro hw21 (And.intro ht21 hx21))
  clear hb hw21 ht21 hx21
  go_wp2_with fail
  refine (one_any 1 (by omega) _).mono ?_
  rintro e A22 ⟨a22, b22, c22, rfl, hw22, ht22, hx22, hb⟩
  obtain ⟨ao22, ac22, rfl⟩ := hw22.open
  obtain ⟨bo22, bc22, rfl⟩ := ht22.open
  obtain ⟨co22, cc22, rfl⟩ := hx22.open
  have HA22 := Lib.hid hb
  have HS22 := Lib.hid (And.intro hw22 (And.intro ht22 hx22))
  clear hb hw22 ht22 hx22
  go_wp2_with fail
  refine (one_own 1 (by omega) _).mono ?_
  rintro e A23 ⟨a23, b23, c23, rfl, hw23, ht23, hx23, hb⟩
  obtain ⟨g23, ac23, gs23, rfl, hgc23, _, hgB23, hgb23, hgs23, hgt23⟩ := own_open (by omega) hw23
  obtain ⟨bo23, bc23, rfl⟩ := ht23.open
  obtain ⟨r23, cc23, rs23, rfl, hrc23, _, hrB23, hrb23, hrs23, hrt23⟩ := own_open (by omega) hx23
  have HA23 := Lib.hid hb
  have HS23 := Lib.hid (And.intro hw23 (And.intro ht23 hx23))
  have hsl23 : ∀ W, (Instr.slice 37 (.slice (some ⟨g23, 0, none⟩) 5 ac23) none (some (.int .i64 4)) none).run Try.prog W = .ok (.slice (some ⟨g23, 0, none⟩) 4 ac23) W := fun W => slice_pair_to g23 0 5 ac23 4 (by omega) hgc23 (by omega) W
  clear hb hw23 ht23 hx23 hgc23 hgB23 hgb23 hgs23 hgt23 hrc23 hrB23 hrb23 hrs23 hrt23
  go_wp2_with fail
  refine (one_any 1 (by omega) _).mono ?_
  rintro e A24 ⟨a24, b24, c24, rfl, hw24, ht24, hx24, hb⟩
  obtain ⟨ao24, ac24, rfl⟩ := hw24.open
  obtain ⟨bo24, bc24, rfl⟩ := ht24.open
  obtain ⟨co24, cc24, rfl⟩ := hx24.open
  have HA24 := Lib.hid hb
  have HS24 := Lib.hid (And.intro hw24 (And.intro ht24 hx24))
  clear hb hw24 ht24 hx24
  go_wp2_with fail
  refine (one_own 1 (by omega) _).mono ?_
  rintro e A25 ⟨a25, b25, c25, rfl, hw25, ht25, hx25, hb⟩
  obtain ⟨g25, ac25, gs25, rfl, hgc25, _, hgB25, hgb25, hgs25, hgt25⟩ := own_open (by omega) hw25
  obtain ⟨bo25, bc25, rfl⟩ := ht25.open
  obtain ⟨r25, cc25, rs25, rfl, hrc25, _, hrB25, hrb25, hrs25, hrt25⟩ := own_open (by omega) hx25
  have HA25 := Lib.hid hb
  have HS25 := Lib.hid (And.intro hw25 (And.intro ht25 hx25))
  have hcs25 : rs25.toList.take 3 = [iv 1, iv 53, iv 1] := hrt25
  have hcell25 : A25.cell? ⟨r25, 2, none⟩ = some (iv 1) := by
    have : rs25.toList[2]? = some (iv 1) := by
      have h5 : (rs25.toList.take 3)[2]? = some (iv 1) := by rw [hcs25]; rfl
      rw [List.getElem?_take] at h5
      simpa using h5
    simp only [World.cell?, hrb25]
    simpa using this
  have hfr25 := frozen_of_block hrb25 2
  have hlt25 := (Array.getElem?_eq_some_iff.1 hrb25).1
  have H25 := Lib.hid (And.intro hcell25 (And.intro hfr25 hlt25))
  have hr25lt := hlt25
  clear hb hw25 ht25 hx25 hgc25 hgs25 hgt25 hrc25 hrs25 hrt25 hcs25 hcell25 hfr25 hlt25
  go_wp2_with fail
  refine (one_own 1 (by omega) _).mono ?_
  rintro e A26 ⟨a26, b26, c26, rfl, hw26, ht26, hx26, hb⟩
  obtain ⟨g26, ac26, gs26, rfl, hgc26, _, hgB26, hgb26, hgs26, hgt26⟩ := own_open (by omega) hw26
  obtain ⟨bo26, bc26, rfl⟩ := ht26.open
  obtain ⟨r26, cc26, rs26, rfl, hrc26, _, hrB26, hrb26, hrs26, hrt26⟩ := own_open (by omega) hx26
  have HA26 := Lib.hid hb
  have HS26 := Lib.hid (And.intro hw26 (And.intro ht26 hx26))
  have hlt26 := (Array.getElem?_eq_some_iff.1 hgb26).1
  clear hb hw26 ht26 hx26 hgc26 hgb26 hgs26 hgt26 hrc26 hrB26 hrs26 hrt26
  go_wp2_with fail
  refine (one_own 1 (by omega) _).mono ?_
  rintro e A27 ⟨a27, b27, c27, rfl, hw27, ht27, hx27, hb⟩
  obtain ⟨g27, ac27, gs27, rfl, hgc27, _, hgB27, hgb27, hgs27, hgt27⟩ := own_open (by omega) hw27
  obtain ⟨bo27, bc27, rfl⟩ := ht27.open
  obtain ⟨r27, cc27, rs27, rfl, hrc27, _, hrB27, hrb27, hrs27, hrt27⟩ := own_open (by omega) hx27
  have HA27 := Lib.hid hb
  have HS27 := Lib.hid (And.intro hw27 (And.intro ht27 hx27))
  have h2527 := bgo HA26.out hb
  have hcell25 : A27.cell? ⟨r25, 2, none⟩ = some (iv 1) := (h2527.cell (p := ⟨r25, 2, none⟩) H25.out.2.2).trans H25.out.1
  have hfr25 : A27.frozen? ⟨r25, 2, none⟩ = false := (h2527.frozen (p := ⟨r25, 2, none⟩) H25.out.2.2).trans H25.out.2.1
  have hlt25 : r25 < A27.heap.size := by have := h2527.size; have := H25.out.2.2; omega
  have hlt27 := (Array.getElem?_eq_some_iff.1 hgb27).1
  have hmk6 := make_six
  have hA27 := bgo HB26.out (bgo HA19.out (bgo HA20.out (bgo HA21.out (bgo HA22.out (bgo HA23.out (bgo HA24.out (bgo HA25.out (bgo HA26.out hb))))))))
  clear hb hw27 ht27 hx27 hgt27 hrc27 hrs27 hrt27 hmk6
  go_upto_region 29 with (fail)
  refine gen_world (fun W28 hW28 => ?_)
  have hq0 : W28.heap[A27.heap.size]? = some (.cells #[iv 10, iv (oneH 1).size, iv (oneH 1).cool, iv (oneH 1).die, iv (oneH 1).burn, iv (oneH 1).start.1, iv (oneH 1).start.2, .slice ao19 (oneH 1).wet.length ac19, .slice bo19 (oneH 1).turns.length bc19, .slice co19 (oneH 1).readings.length cc19] 40 (0, 0)) := by
    rw [hW28]
    repeat (first | exact heap_at _ _ _ (by simp) | refine (Below.heap_alloc _ _ _ (by simp; try omega)).trans ?_)
  have hq1 : W28.heap[A27.heap.size + 1]? = some (.cells #[iv (oneH 1).last, iv 21, iv (oneH 1).cool, iv (oneH 1).die, iv (oneH 1).burn, iv (oneH 1).start.1, iv (oneH 1).start.2, .slice ao20 (oneH 1).wet.length ac20, .slice bo20 (oneH 1).turns.length bc20, .slice co20 (oneH 1).readings.length cc20] 40 (0, 0)) := by
    rw [hW28]
    repeat (first | exact heap_at _ _ _ (by simp) | refine (Below.heap_alloc _ _ _ (by simp; try omega)).trans ?_)
  have hq2 : W28.heap[A27.heap.size + 1 + 1]? = some (.cells #[iv (oneH 1).last, iv (oneH 1).size, iv 101, iv (oneH 1).die, iv (oneH 1).burn, iv (oneH 1).start.1, iv (oneH 1).start.2, .slice ao21 (oneH 1).wet.length ac21, .slice bo21 (oneH 1).turns.length bc21, .slice co21 (oneH 1).readings.length cc21] 40 (0, 0)) := by
    rw [hW28]
    repeat (first | exact heap_at _ _ _ (by simp) | refine (Below.heap_alloc _ _ _ (by simp; try omega)).trans ?_)
  have hq3 : W28.heap[A27.heap.size + 1 + 1 + 1]? = some (.cells #[iv (oneH 1).last, iv (oneH 1).size, iv (oneH 1).cool, iv 61, iv (oneH 1).burn, iv (oneH 1).start.1, iv (oneH 1).start.2, .slice ao22 (oneH 1).wet.length ac22, .slice bo22 (oneH 1).turns.length bc22, .slice co22 (oneH 1).readings.length cc22] 40 (0, 0)) := by
    rw [hW28]
    repeat (first | exact heap_at _ _ _ (by simp) | refine (Below.heap_alloc _ _ _ (by simp; try omega)).trans ?_)
  have hq4 : W28.heap[A27.heap.size + 1 + 1 + 1 + 1]? = some (.cells #[iv (oneH 1).last, iv (oneH 1).size, iv (oneH 1).cool, iv (oneH 1).die, iv (oneH 1).burn, iv (oneH 1).start.1, iv (oneH 1).start.2, .slice (some ⟨g23, 0, none⟩) 4 ac23, .slice bo23 (oneH 1).turns.length bc23, .slice (some ⟨r23, 0, none⟩) 1 cc23] 40 (0, 0)) := by
    rw [hW28]
    repeat (first | exact heap_at _ _ _ (by simp) | refine (Below.heap_alloc _ _ _ (by simp; try omega)).trans ?_)
  have hq5 : W28.heap[A27.heap.size + 1 + 1 + 1 + 1 + 1]? = some (.cells #[iv (oneH 1).last, iv (oneH 1).size, iv (oneH 1).cool, iv (oneH 1).die, iv (oneH 1).burn, iv (oneH 1).start.1, iv (oneH 1).start.2, .slice ao24 (oneH 1).wet.length ac24, .slice (some ⟨A27.heap.size + 1 + 1 + 1 + 1 + 1 + 1 + 1 + 1 + 1, 0, none⟩) 2 2, .slice co24 (oneH 1).readings.length cc24] 40 (0, 0)) := by
    rw [hW28]
    repeat (first | exact heap_at _ _ _ (by simp) | refine (Below.heap_alloc _ _ _ (by simp; try omega)).trans ?_)
  have hq6 : W28.heap[A27.heap.size + 1 + 1 + 1 + 1 + 1 + 1]? = some (.cells #[iv (oneH 1).last, iv (oneH 1).size, iv (oneH 1).cool, iv (oneH 1).die, iv (oneH 1).burn, iv (oneH 1).start.1, iv (oneH 1).start.2, .slice (some ⟨g25, 0, none⟩) 5 ac25, .slice bo25 (oneH 1).turns.length bc25, .slice (some ⟨r25, 0, none⟩) 1 cc25] 40 (0, 0)) := by
    rw [hW28]
    repeat (first | exact heap_at _ _ _ (by simp) | refine (Below.heap_alloc _ _ _ (by simp; try omega)).trans ?_)
  have hq7 : W28.heap[A27.heap.size + 1 + 1 + 1 + 1 + 1 + 1 + 1]? = some (.cells #[iv (oneH 1).last, iv (oneH 1).size, iv (oneH 1).cool, iv (oneH 1).die, iv (oneH 1).burn, iv (oneH 1).start.1, iv (oneH 1).start.2, .slice (some ⟨g26, 0, none⟩) 5 ac26, .slice bo26 (oneH 1).turns.length bc26, .slice (some ⟨r26, 0, none⟩) 1 cc26] 40 (0, 0)) := by
    rw [hW28]
    repeat (first | exact heap_at _ _ _ (by simp) | refine (Below.heap_alloc _ _ _ (by simp; try omega)).trans ?_)
  have hq8 : W28.heap[A27.heap.size + 1 + 1 + 1 + 1 + 1 + 1 + 1 + 1]? = some (.cells #[iv (oneH 1).last, iv (oneH 1).size, iv (oneH 1).cool, iv (oneH 1).die, iv (oneH 1).burn, iv (oneH 1).start.1, iv (oneH 1).start.2, .slice (some ⟨g27, 0, none⟩) 5 ac27, .slice bo27 (oneH 1).turns.length bc27, .slice (some ⟨r27, 0, none⟩) 1 cc27] 40 (0, 0)) := by
    rw [hW28]
    repeat (first | exact heap_at _ _ _ (by simp) | refine (Below.heap_alloc _ _ _ (by simp; try omega)).trans ?_)
  have hq9 : W28.heap[A27.heap.size + 1 + 1 + 1 + 1 + 1 + 1 + 1 + 1 + 1]? = some (.cells #[iv 1, iv 1] 3 (0, 0)) := by
    rw [hW28]
    exact heap_at _ _ _ (by simp)
  have hB28 : Below A27.heap.size A27 W28 := by rw [hW28]; exact bgoAlloc (bgoAlloc (bgoAlloc (bgoAlloc (bgoAlloc (bgoAlloc (bgoAlloc (bgoAlloc (bgoAlloc (bgoAlloc (Below.refl _ _) _) _) _) _) _) _) _) _) _) _
  have hs28 : W28.heap.size = A27.heap.size + 10 := by rw [hW28]; simp
  clear hW28
  have hcell28 := (hB28.cell (p := ⟨r25, 2, none⟩) hlt25).trans hcell25
  have hfr28 := (hB28.frozen (p := ⟨r25, 2, none⟩) hlt25).trans hfr25
  have hlt28 : r25 < W28.heap.size := by omega
  have h26c : W28.cell? ⟨A27.heap.size + 1 + 1 + 1 + 1 + 1 + 1, 9, none⟩ = some (.slice (some ⟨r25, 0, none⟩) 1 cc25) := by simp only [World.cell?, hq6]; rfl
  have h27c : W28.cell? ⟨A27.heap.size + 1 + 1 + 1 + 1 + 1 + 1 + 1, 9, none⟩ = some (.slice (some ⟨r26, 0, none⟩) 1 cc26) := by simp only [World.cell?, hq7]; rfl
  have h27f := frozen_of_block hq7 9
  have s6 := (Array.getElem?_eq_some_iff.1 hq6).1
  have s7 := (Array.getElem?_eq_some_iff.1 hq7).1
  have hne67 : ¬ A27.heap.size + 1 + 1 + 1 + 1 + 1 + 1 + 1 = r25 := by omega
  have hmk := make_six
  have HQ := Lib.hid (And.intro hq0 (And.intro hq1 (And.intro hq2 (And.intro hq3 (And.intro hq4 (And.intro hq5 (And.intro hq6 (And.intro hq7 (And.intro hq8 hq9)))))))))
  clear hq0 hq1 hq2 hq3 hq4 hq5 hq6 hq7 hq8 hq9 hcell25 hfr25 hsl23
  go_upto_region 31 with (fail)
  refine gen_world (fun W30 hW30 => ?_)
  have hs30 : W30.heap.size = A27.heap.size + 11 := by rw [hW30]; simp [World.setCell, hs28]
  have hk30 : ∀ b, b < W28.heap.size → b ≠ r25 → b ≠ A27.heap.size + 1 + 1 + 1 + 1 + 1 + 1 + 1 → W30.heap[b]? = W28.heap[b]? := fun b hb h1 h2 => by
    rw [hW30]
    exact (Below.heap_alloc _ _ _ (by simpa [World.setCell] using hb)).trans ((Below.heap_setCell _ _ _ _ h2).trans (Below.heap_setCell _ _ _ _ h1))
  have hb7 : W30.heap[A27.heap.size + 1 + 1 + 1 + 1 + 1 + 1 + 1]? = some (.cells #[iv (oneH 1).last, iv (oneH 1).size, iv (oneH 1).cool, iv (oneH 1).die, iv (oneH 1).burn, iv (oneH 1).start.1, iv (oneH 1).start.2, .slice (some ⟨g26, 0, none⟩) 5 ac26, .slice bo26 (oneH 1).turns.length bc26, .slice (some ⟨A27.heap.size + 10, 0, none⟩) 6 6] 40 (0, 0)) := by
    rw [hW30]
    exact (Below.heap_alloc _ _ _ (by simp [World.setCell]; omega)).trans (set_block ((Below.heap_setCell _ _ _ _ hne67).trans HQ.out.2.2.2.2.2.2.2.1) _)
  have hr30 : W30.heap[r25]? = (W28.setCell ⟨r25, 2, none⟩ (iv 51)).heap[r25]? := by
    rw [hW30]
    exact (Below.heap_alloc _ _ _ (by simp [World.setCell]; omega)).trans (Below.heap_setCell _ _ _ _ (by show r25 ≠ A27.heap.size + 1 + 1 + 1 + 1 + 1 + 1 + 1; omega))
  have hM30 : W30.heap[A27.heap.size + 10]? = some (.cells (tripleCells [(0, 0, 0), (0, 0, 0), (0, 0, 0), (0, 0, 0), (0, 0, 0), (0, 0, 0)]).toArray 104 (0, 0)) := by
    rw [hW30]
    exact heap_at _ _ _ (by simp [World.setCell, hs28])
  have hb24' : A24.heap.size ≤ r25 := hrB25
  have hB24 : Below A24.heap.size A24 W30 := by
    rw [hW30]
    refine bgoAlloc (bgoSet (bgoSet (bgo (bgo HA25.out (bgo HA26.out HA27.out)) hB28) hrB25 _) ?_ _) _
    have h1 := HA25.out.size
    have h2 := HA26.out.size
    have h3 := HA27.out.size
    show A24.heap.size ≤ A27.heap.size + 1 + 1 + 1 + 1 + 1 + 1 + 1
    omega
  have hq8 : W30.heap[A27.heap.size + 1 + 1 + 1 + 1 + 1 + 1 + 1 + 1]? = some (.cells #[iv (oneH 1).last, iv (oneH 1).size, iv (oneH 1).cool, iv (oneH 1).die, iv (oneH 1).burn, iv (oneH 1).start.1, iv (oneH 1).start.2, .slice (some ⟨g27, 0, none⟩) 5 ac27, .slice bo27 (oneH 1).turns.length bc27, .slice (some ⟨r27, 0, none⟩) 1 cc27] 40 (0, 0)) := (hk30 _ (by omega) (by omega) (by omega)).trans HQ.out.2.2.2.2.2.2.2.2.1
  have h28c : W30.cell? ⟨A27.heap.size + 1 + 1 + 1 + 1 + 1 + 1 + 1 + 1, 7, none⟩ = some (.slice (some ⟨g27, 0, none⟩) 5 ac27) := by simp only [World.cell?, hq8]; rfl
  have h28d : W30.cell? ⟨A27.heap.size + 1 + 1 + 1 + 1 + 1 + 1 + 1 + 1, 5, none⟩ = some (iv (oneH 1).start.1) := by simp only [World.cell?, hq8]; rfl
  have h28e : W30.cell? ⟨A27.heap.size + 1 + 1 + 1 + 1 + 1 + 1 + 1 + 1, 6, none⟩ = some (iv (oneH 1).start.2) := by simp only [World.cell?, hq8]; rfl
  have h28f := fun k => frozen_of_block hq8 k
  have s8 := (Array.getElem?_eq_some_iff.1 hq8).1
  have hg27r : g27 ≠ r25 := by
    have h1 := HA26.out.size
    omega
  have hg27 : W30.heap[g27]? = some (.cells gs27 36 (0, 0)) := (hk30 _ (by omega) hg27r (by omega)).trans ((hB28.block _ hlt27).trans hgb27)
  have hgo : ∃ x y, gs27[4]? = some x ∧ gs27[5]? = some y := by
    have hsz : 10 ≤ gs27.size := by omega
    exact ⟨gs27[4]'(by omega), gs27[5]'(by omega), by simp, by simp⟩
  obtain ⟨gx, gy, hgx, hgy⟩ := hgo
  have h27x : W30.cell? ⟨g27, 4, none⟩ = some gx := by simp only [World.cell?, hg27]; exact hgx
  have h27y : W30.cell? ⟨g27, 5, none⟩ = some gy := by simp only [World.cell?, hg27]; exact hgy
  have h27f' := fun k => frozen_of_block hg27 k
  have sg27 := (Array.getElem?_eq_some_iff.1 hg27).1
  have hne8 : ¬ g27 = A27.heap.size + 1 + 1 + 1 + 1 + 1 + 1 + 1 + 1 := by omega
  have hne8' : ¬ A27.heap.size + 1 + 1 + 1 + 1 + 1 + 1 + 1 + 1 = g27 := by omega
  clear hW30
  refine wp_region_rg 5 [] none [(2, Spec.val (rv (0, 99))), (3, Spec.val (rv (0, 9)))] (by kernel_rfl) (by kernel_rfl) ?_
  simp only [List.take_succ_cons, List.take_zero, List.drop_succ_cons, List.drop_zero]
  repeat (first | (refine tree_det (by rfl) _ (by rfl) (fun W hW => by go_simp; (try simp (disch := omega) only [IntWalk.i64_in, Int.tdiv_eq_ediv_of_nonneg]); try rfl) ?_; simp only [Act.put, List.setIfInBounds_toArray, List.set_cons_succ, List.set_cons_zero]) | (refine tree_skip (by rfl) (by rfl) ?_; simp only [Act.put, List.setIfInBounds_toArray, List.set_cons_succ, List.set_cons_zero]))
  refine tree_val _ (by rfl) (by rfl) 63 _ (fun W hW => by go_simp; try rfl) (fun W hE hF => by exact between_any 0 99 W) ?_
  simp only [Act.put, List.setIfInBounds_toArray, List.set_cons_succ, List.set_cons_zero]
  refine tree_val _ (by rfl) (by rfl) 63 _ (fun W hW => by go_simp; try rfl) (fun W hE hF => by exact between_any 0 9 W) ?_
  simp only [Act.put, List.setIfInBounds_toArray, List.set_cons_succ, List.set_cons_zero]
  repeat (first | (refine tree_det (by rfl) _ (by rfl) (fun W hW => by go_simp; (try simp (disch := omega) only [IntWalk.i64_in, Int.tdiv_eq_ediv_of_nonneg]); try rfl) ?_; simp only [Act.put, List.setIfInBounds_toArray, List.set_cons_succ, List.set_cons_zero]) | (refine tree_skip (by rfl) (by rfl) ?_; simp only [Act.put, List.setIfInBounds_toArray, List.set_cons_succ, List.set_cons_zero]))
  intro W31 hE31 hF31
  have hE : Ext [] W30 W31 := hE31
  obtain ⟨hc31, hf31⟩ := bcell hE.below
  have hz31 := hE.size
  have e4 := (hc31 g27 4 sg27).trans h27x
  have e5 := (hc31 g27 5 sg27).trans h27y
  have ef := fun k => (hf31 g27 k sg27).trans (h27f' k)
  have n5 := (hc31 _ 5 s8).trans h28d
  have n6 := (hc31 _ 6 s8).trans h28e
  have nf := fun k => (hf31 _ k s8).trans (h28f k)
  have s8' : A27.heap.size + 1 + 1 + 1 + 1 + 1 + 1 + 1 + 1 < W31.heap.size := by omega
  have sg27' : g27 < W31.heap.size := by omega
  have hb8 := (hE.block _ s8 (by simp)).trans hq8
  have HS30 := Lib.hid hs30
  have HE31 := Lib.hid hE
  clear hE hE31 hF31 hc31 hf31 hs30 hz31
  go_upto_region 32 with (fail)
  refine gen_world (fun W32 hW32 => ?_)
  replace hW32 : W32 = (((W31.setCell ⟨A27.heap.size + 1 + 1 + 1 + 1 + 1 + 1 + 1 + 1, 5, none⟩ (iv 0)).setCell ⟨A27.heap.size + 1 + 1 + 1 + 1 + 1 + 1 + 1 + 1, 6, none⟩ (iv 99)).setCell ⟨g27, 4, none⟩ (iv 0)).setCell ⟨g27, 5, none⟩ (iv 9) := hW32
  have hk32 : ∀ b, b < W28.heap.size → b ≠ r25 → b ≠ A27.heap.size + 1 + 1 + 1 + 1 + 1 + 1 + 1 → b ≠ A27.heap.size + 1 + 1 + 1 + 1 + 1 + 1 + 1 + 1 → b ≠ g27 → W32.heap[b]? = W28.heap[b]? := fun b hb h1 h2 h3 h4 => by
    rw [hW32]
    refine (Below.heap_setCell _ _ _ _ h4).trans ((Below.heap_setCell _ _ _ _ h4).trans ((Below.heap_setCell _ _ _ _ h3).trans ((Below.heap_setCell _ _ _ _ h3).trans ?_)))
    exact (HE31.out.block b (by have := HS30.out; omega) (by simp)).trans (hk30 b hb h1 h2)
  have hk33 : ∀ b, b < W30.heap.size → b ≠ A27.heap.size + 1 + 1 + 1 + 1 + 1 + 1 + 1 + 1 → b ≠ g27 → W32.heap[b]? = W30.heap[b]? := fun b hb h3 h4 => by
    rw [hW32]
    refine (Below.heap_setCell _ _ _ _ h4).trans ((Below.heap_setCell _ _ _ _ h4).trans ((Below.heap_setCell _ _ _ _ h3).trans ((Below.heap_setCell _ _ _ _ h3).trans ?_)))
    exact HE31.out.block b hb (by simp)
  have hp8 : W32.heap[A27.heap.size + 1 + 1 + 1 + 1 + 1 + 1 + 1 + 1]? = some (.cells #[iv (oneH 1).last, iv (oneH 1).size, iv (oneH 1).cool, iv (oneH 1).die, iv (oneH 1).burn, iv 0, iv 99, .slice (some ⟨g27, 0, none⟩) 5 ac27, .slice bo27 (oneH 1).turns.length bc27, .slice (some ⟨r27, 0, none⟩) 1 cc27] 40 (0, 0)) := by
    rw [hW32]
    exact (Below.heap_setCell _ _ _ _ hne8').trans ((Below.heap_setCell _ _ _ _ hne8').trans (set_block (set_block hb8 _) _))
  have hp7 := (hk33 _ (by have := HS30.out; omega) (by omega) (by omega)).trans hb7
  have hpM := (hk33 (A27.heap.size + 10) (by have := HS30.out; omega) (by omega) (by omega)).trans hM30
  have hp0 := (hk32 (A27.heap.size) (by omega) (by omega) (by omega) (by omega) (by omega)).trans HQ.out.1
  have hp1 := (hk32 (A27.heap.size + 1) (by omega) (by omega) (by omega) (by omega) (by omega)).trans HQ.out.2.1
  have hp2 := (hk32 (A27.heap.size + 1 + 1) (by omega) (by omega) (by omega) (by omega) (by omega)).trans HQ.out.2.2.1
  have hp3 := (hk32 (A27.heap.size + 1 + 1 + 1) (by omega) (by omega) (by omega) (by omega) (by omega)).trans HQ.out.2.2.2.1
  have hp4 := (hk32 (A27.heap.size + 1 + 1 + 1 + 1) (by omega) (by omega) (by omega) (by omega) (by omega)).trans HQ.out.2.2.2.2.1
  have hp5 := (hk32 (A27.heap.size + 1 + 1 + 1 + 1 + 1) (by omega) (by omega) (by omega) (by omega) (by omega)).trans HQ.out.2.2.2.2.2.1
  have hp6 := (hk32 (A27.heap.size + 1 + 1 + 1 + 1 + 1 + 1) (by omega) (by omega) (by omega) (by omega) (by omega)).trans HQ.out.2.2.2.2.2.2.1
  have hp9 := (hk32 (A27.heap.size + 1 + 1 + 1 + 1 + 1 + 1 + 1 + 1 + 1) (by omega) (by omega) (by omega) (by omega) (by omega)).trans HQ.out.2.2.2.2.2.2.2.2.2
  have hB32 : Below A24.heap.size A24 W32 := by
    have h1 := HA25.out.size
    have h2 := HA26.out.size
    have h3 := HA27.out.size
    rw [hW32]
    exact bgoSet (bgoSet (bgoSet (bgoSet (bgo hB24 HE31.out.below) (by show A24.heap.size ≤ A27.heap.size + 1 + 1 + 1 + 1 + 1 + 1 + 1 + 1; omega) _) (by show A24.heap.size ≤ A27.heap.size + 1 + 1 + 1 + 1 + 1 + 1 + 1 + 1; omega) _) (by show A24.heap.size ≤ g27; omega) _) (by show A24.heap.size ≤ g27; omega) _
  have h1924 := bgo HA20.out (bgo HA21.out (bgo HA22.out (bgo HA23.out HA24.out)))
  have h2024 := bgo HA21.out (bgo HA22.out (bgo HA23.out HA24.out))
  have h2124 := bgo HA22.out (bgo HA23.out HA24.out)
  have h2224 := bgo HA23.out HA24.out
  have hz19 := bgo h1924 hB32
  have hz20 := bgo h2024 hB32
  have hz21 := bgo h2124 hB32
  have hz22 := bgo h2224 hB32
  have hz23 := bgo HA24.out hB32
  have L19 : Hid (PairsAt W32 (.slice ao19 (oneH 1).wet.length ac19) (oneH 1).wet ∧ IntsAt W32 (.slice bo19 (oneH 1).turns.length bc19) (oneH 1).turns ∧ TriplesAt W32 (.slice co19 (oneH 1).readings.length cc19) (oneH 1).readings) := Lib.hid ⟨HS19.out.1.below hz19 (Nat.le_refl _), HS19.out.2.1.below hz19 (Nat.le_refl _), HS19.out.2.2.below hz19 (Nat.le_refl _)⟩
  have L20 : Hid (PairsAt W32 (.slice ao20 (oneH 1).wet.length ac20) (oneH 1).wet ∧ IntsAt W32 (.slice bo20 (oneH 1).turns.length bc20) (oneH 1).turns ∧ TriplesAt W32 (.slice co20 (oneH 1).readings.length cc20) (oneH 1).readings) := Lib.hid ⟨HS20.out.1.below hz20 (Nat.le_refl _), HS20.out.2.1.below hz20 (Nat.le_refl _), HS20.out.2.2.below hz20 (Nat.le_refl _)⟩
  have L21 : Hid (PairsAt W32 (.slice ao21 (oneH 1).wet.length ac21) (oneH 1).wet ∧ IntsAt W32 (.slice bo21 (oneH 1).turns.length bc21) (oneH 1).turns ∧ TriplesAt W32 (.slice co21 (oneH 1).readings.length cc21) (oneH 1).readings) := Lib.hid ⟨HS21.out.1.below hz21 (Nat.le_refl _), HS21.out.2.1.below hz21 (Nat.le_refl _), HS21.out.2.2.below hz21 (Nat.le_refl _)⟩
  have L22 : Hid (PairsAt W32 (.slice ao22 (oneH 1).wet.length ac22) (oneH 1).wet ∧ IntsAt W32 (.slice bo22 (oneH 1).turns.length bc22) (oneH 1).turns ∧ TriplesAt W32 (.slice co22 (oneH 1).readings.length cc22) (oneH 1).readings) := Lib.hid ⟨HS22.out.1.below hz22 (Nat.le_refl _), HS22.out.2.1.below hz22 (Nat.le_refl _), HS22.out.2.2.below hz22 (Nat.le_refl _)⟩
  have L23 : Hid (PairsAt W32 (.slice (some ⟨g23, 0, none⟩) 4 ac23) ((oneH 1).wet.take 4) ∧ IntsAt W32 (.slice bo23 (oneH 1).turns.length bc23) (oneH 1).turns ∧ TriplesAt W32 (.slice (some ⟨r23, 0, none⟩) 1 cc23) (oneH 1).readings) :=
    Lib.hid ⟨SlAt.below (show PairsAt A23 (.slice (some ⟨g23, 0, none⟩) 4 ac23) ((oneH 1).wet.take 4) from pairs_take (SlAt.of_owns HS23.out.1) 4 (by omega)) hz23 (Nat.le_refl _), HS23.out.2.1.below hz23 (Nat.le_refl _), SlAt.below (show TriplesAt A23 (.slice (some ⟨r23, 0, none⟩) 1 cc23) (oneH 1).readings from SlAt.of_owns HS23.out.2.2) hz23 (Nat.le_refl _)⟩
  have L24 : Hid (PairsAt W32 (.slice ao24 (oneH 1).wet.length ac24) (oneH 1).wet ∧ IntsAt W32 (.slice (some ⟨A27.heap.size + 1 + 1 + 1 + 1 + 1 + 1 + 1 + 1 + 1, 0, none⟩) 2 2) [1, 1] ∧ TriplesAt W32 (.slice co24 (oneH 1).readings.length cc24) (oneH 1).readings) :=
    Lib.hid ⟨HS24.out.1.below hB32 (Nat.le_refl _), SlAt.of_block 1 2 hp9 rfl (by decide), HS24.out.2.2.below hB32 (Nat.le_refl _)⟩
  have h25w := bgo HA26.out HA27.out
  have z26 := HA26.out.size
  have z27 := HA27.out.size
  have hg25lt := (Array.getElem?_eq_some_iff.1 hgb25).1
  have hg25r : g25 ≠ r25 := fun e => by
    rw [e] at hgb25
    rw [hrb25] at hgb25
    simp at hgb25
  have hr27lt := (Array.getElem?_eq_some_iff.1 hrb27).1
  have hg27r27 : r27 ≠ g27 := fun e => by
    rw [e] at hrb27
    rw [hgb27] at hrb27
    simp at hrb27
  have o25 := owns_set (owns_ext (Ms := []) (owns_ext (Ms := []) HS25.out.2.2 (Ext.of_below h25w) (by simp)) (Ext.of_below hB28) (by simp)) 2 (by omega) (iv 51)
  have L25 : Hid (PairsAt W32 (.slice (some ⟨g25, 0, none⟩) 5 ac25) (oneH 1).wet ∧ IntsAt W32 (.slice bo25 (oneH 1).turns.length bc25) (oneH 1).turns ∧ TriplesAt W32 (.slice (some ⟨r25, 0, none⟩) 1 cc25) [(1, 53, 51)]) :=
    Lib.hid ⟨SlAt.of_owns (owns_keep HS25.out.1 fun g hg => by
        have e : g25 = g := by simpa [Value.ownBlock] using hg
        subst e
        exact (hk32 _ (by omega) hg25r (by omega) (by omega) (by omega)).trans ((hB28.block _ (by omega)).trans (h25w.block _ hg25lt))), ints_empty HS25.out.2.1,
      SlAt.of_owns (owns_keep o25 fun g hg => by
        have e : r25 = g := by simpa [Value.ownBlock] using hg
        subst e
        exact (hk33 _ (by have := HS30.out; omega) (by omega) (by omega)).trans hr30)⟩
  have L26 : Hid (PairsAt W32 (.slice (some ⟨g26, 0, none⟩) 5 ac26) (oneH 1).wet ∧ IntsAt W32 (.slice bo26 (oneH 1).turns.length bc26) (oneH 1).turns ∧ TriplesAt W32 (.slice (some ⟨A27.heap.size + 10, 0, none⟩) 6 6) [(0, 0, 0), (0, 0, 0), (0, 0, 0), (0, 0, 0), (0, 0, 0), (0, 0, 0)]) :=
    Lib.hid ⟨SlAt.of_owns (owns_keep HS26.out.1 fun g hg => by
        have e : g26 = g := by simpa [Value.ownBlock] using hg
        subst e
        exact (hk32 _ (by omega) (by omega) (by omega) (by omega) (by omega)).trans ((hB28.block _ (by omega)).trans (HA27.out.block _ hlt26))), ints_empty HS26.out.2.1, SlAt.of_block 3 6 hpM rfl (by decide)⟩
  have o27 : ((W31.setCell ⟨A27.heap.size + 1 + 1 + 1 + 1 + 1 + 1 + 1 + 1, 5, none⟩ (iv 0)).setCell ⟨A27.heap.size + 1 + 1 + 1 + 1 + 1 + 1 + 1 + 1, 6, none⟩ (iv 99)).ownsRow A26.heap.size 36 2 (.slice (some ⟨g27, 0, none⟩) (oneH 1).wet.length ac27) (oneH 1).wet.length (pairCells (oneH 1).wet) := owns_keep HS27.out.1 fun g hg => by
    have e : g27 = g := by simpa [Value.ownBlock] using hg
    subst e
    exact (Below.heap_setCell _ _ _ _ hne8).trans ((Below.heap_setCell _ _ _ _ hne8).trans ((HE31.out.block _ sg27 (by simp)).trans ((hk30 _ (by omega) hg27r (by omega)).trans (hB28.block _ hlt27))))
  have o27' := owns_set_pair o27 (i := 2) (by decide) (0, 9)
  have L27 : Hid (PairsAt W32 (.slice (some ⟨g27, 0, none⟩) 5 ac27) [(10, 12), (10, 10), (0, 9), (8, 9), (10, 10)] ∧ IntsAt W32 (.slice bo27 (oneH 1).turns.length bc27) (oneH 1).turns ∧ TriplesAt W32 (.slice (some ⟨r27, 0, none⟩) 1 cc27) (oneH 1).readings) :=
    Lib.hid ⟨by rw [hW32]; exact SlAt.of_owns o27', ints_empty HS27.out.2.1,
      SlAt.of_owns (owns_keep HS27.out.2.2 fun g hg => by
        have e : r27 = g := by simpa [Value.ownBlock] using hg
        subst e
        exact (hk32 _ (by omega) (by omega) (by omega) (by omega) hg27r27).trans (hB28.block _ hr27lt))⟩
  have y0 := (Array.getElem?_eq_some_iff.1 hp0).1
  have x0 : ∀ i, W32.cell? ⟨A27.heap.size, i, none⟩ = (#[iv 10, iv (oneH 1).size, iv (oneH 1).cool, iv (oneH 1).die, iv (oneH 1).burn, iv (oneH 1).start.1, iv (oneH 1).start.2, .slice ao19 (oneH 1).wet.length ac19, .slice bo19 (oneH 1).turns.length bc19, .slice co19 (oneH 1).readings.length cc19] : Array Value)[i]? := fun i => by
    simp only [World.cell?, hp0]; rfl
  have y1 := (Array.getElem?_eq_some_iff.1 hp1).1
  have x1 : ∀ i, W32.cell? ⟨A27.heap.size + 1, i, none⟩ = (#[iv (oneH 1).last, iv 21, iv (oneH 1).cool, iv (oneH 1).die, iv (oneH 1).burn, iv (oneH 1).start.1, iv (oneH 1).start.2, .slice ao20 (oneH 1).wet.length ac20, .slice bo20 (oneH 1).turns.length bc20, .slice co20 (oneH 1).readings.length cc20] : Array Value)[i]? := fun i => by
    simp only [World.cell?, hp1]; rfl
  have y2 := (Array.getElem?_eq_some_iff.1 hp2).1
  have x2 : ∀ i, W32.cell? ⟨A27.heap.size + 1 + 1, i, none⟩ = (#[iv (oneH 1).last, iv (oneH 1).size, iv 101, iv (oneH 1).die, iv (oneH 1).burn, iv (oneH 1).start.1, iv (oneH 1).start.2, .slice ao21 (oneH 1).wet.length ac21, .slice bo21 (oneH 1).turns.length bc21, .slice co21 (oneH 1).readings.length cc21] : Array Value)[i]? := fun i => by
    simp only [World.cell?, hp2]; rfl
  have y3 := (Array.getElem?_eq_some_iff.1 hp3).1
  have x3 : ∀ i, W32.cell? ⟨A27.heap.size + 1 + 1 + 1, i, none⟩ = (#[iv (oneH 1).last, iv (oneH 1).size, iv (oneH 1).cool, iv 61, iv (oneH 1).burn, iv (oneH 1).start.1, iv (oneH 1).start.2, .slice ao22 (oneH 1).wet.length ac22, .slice bo22 (oneH 1).turns.length bc22, .slice co22 (oneH 1).readings.length cc22] : Array Value)[i]? := fun i => by
    simp only [World.cell?, hp3]; rfl
  have y4 := (Array.getElem?_eq_some_iff.1 hp4).1
  have x4 : ∀ i, W32.cell? ⟨A27.heap.size + 1 + 1 + 1 + 1, i, none⟩ = (#[iv (oneH 1).last, iv (oneH 1).size, iv (oneH 1).cool, iv (oneH 1).die, iv (oneH 1).burn, iv (oneH 1).start.1, iv (oneH 1).start.2, .slice (some ⟨g23, 0, none⟩) 4 ac23, .slice bo23 (oneH 1).turns.length bc23, .slice (some ⟨r23, 0, none⟩) 1 cc23] : Array Value)[i]? := fun i => by
    simp only [World.cell?, hp4]; rfl
  have y5 := (Array.getElem?_eq_some_iff.1 hp5).1
  have x5 : ∀ i, W32.cell? ⟨A27.heap.size + 1 + 1 + 1 + 1 + 1, i, none⟩ = (#[iv (oneH 1).last, iv (oneH 1).size, iv (oneH 1).cool, iv (oneH 1).die, iv (oneH 1).burn, iv (oneH 1).start.1, iv (oneH 1).start.2, .slice ao24 (oneH 1).wet.length ac24, .slice (some ⟨A27.heap.size + 1 + 1 + 1 + 1 + 1 + 1 + 1 + 1 + 1, 0, none⟩) 2 2, .slice co24 (oneH 1).readings.length cc24] : Array Value)[i]? := fun i => by
    simp only [World.cell?, hp5]; rfl
  have y6 := (Array.getElem?_eq_some_iff.1 hp6).1
  have x6 : ∀ i, W32.cell? ⟨A27.heap.size + 1 + 1 + 1 + 1 + 1 + 1, i, none⟩ = (#[iv (oneH 1).last, iv (oneH 1).size, iv (oneH 1).cool, iv (oneH 1).die, iv (oneH 1).burn, iv (oneH 1).start.1, iv (oneH 1).start.2, .slice (some ⟨g25, 0, none⟩) 5 ac25, .slice bo25 (oneH 1).turns.length bc25, .slice (some ⟨r25, 0, none⟩) 1 cc25] : Array Value)[i]? := fun i => by
    simp only [World.cell?, hp6]; rfl
  have y7 := (Array.getElem?_eq_some_iff.1 hp7).1
  have x7 : ∀ i, W32.cell? ⟨A27.heap.size + 1 + 1 + 1 + 1 + 1 + 1 + 1, i, none⟩ = (#[iv (oneH 1).last, iv (oneH 1).size, iv (oneH 1).cool, iv (oneH 1).die, iv (oneH 1).burn, iv (oneH 1).start.1, iv (oneH 1).start.2, .slice (some ⟨g26, 0, none⟩) 5 ac26, .slice bo26 (oneH 1).turns.length bc26, .slice (some ⟨A27.heap.size + 10, 0, none⟩) 6 6] : Array Value)[i]? := fun i => by
    simp only [World.cell?, hp7]; rfl
  have y8 := (Array.getElem?_eq_some_iff.1 hp8).1
  have x8 : ∀ i, W32.cell? ⟨A27.heap.size + 1 + 1 + 1 + 1 + 1 + 1 + 1 + 1, i, none⟩ = (#[iv (oneH 1).last, iv (oneH 1).size, iv (oneH 1).cool, iv (oneH 1).die, iv (oneH 1).burn, iv 0, iv 99, .slice (some ⟨g27, 0, none⟩) 5 ac27, .slice bo27 (oneH 1).turns.length bc27, .slice (some ⟨r27, 0, none⟩) 1 cc27] : Array Value)[i]? := fun i => by
    simp only [World.cell?, hp8]; rfl
  have hBw : Below w.heap.size w W32 := by
    have h1 := bgo HB26.out (bgo HA19.out h1924)
    exact bgo h1 hB32
  have HBW := Lib.hid hBw
  clear hW32 hk32 hk33 hp0 hp1 hp2 hp3 hp4 hp5 hp6 hp7 hp8 hp9 hpM hB32 h1924 h2024 h2124 h2224 hz19 hz20 hz21 hz22 hz23 o25 o27 o27' hBw hk30 hb7 hr30 hM30 hB24 hq8 hb8 hg27 h25w
  have HZ0 := Lib.hid (Below.refl W32.heap.size W32)
  go_wp2_with fail
  refine (check_any { oneH 1 with last := 10 } _ _ _ _ (SlAt.below L19.out.1 HZ0.out (Nat.le_refl _)) (SlAt.below L19.out.2.1 HZ0.out (Nat.le_refl _)) (SlAt.below L19.out.2.2 HZ0.out (Nat.le_refl _))).mono ?_
  rintro e V1 ⟨rfl, hb⟩
  rw [nm_c1]
  have hz := bgo HZ0.out hb
  (try clear hc hf)
  obtain ⟨hc, hf⟩ := bcell hz
  have HZ1 := Lib.hid hz
  clear hb hz
  go_wp2_with fail
  refine (check_any { oneH 1 with size := 21 } _ _ _ _ (SlAt.below L20.out.1 HZ1.out (Nat.le_refl _)) (SlAt.below L20.out.2.1 HZ1.out (Nat.le_refl _)) (SlAt.below L20.out.2.2 HZ1.out (Nat.le_refl _))).mono ?_
  rintro e V2 ⟨rfl, hb⟩
  rw [nm_c2]
  have hz := bgo HZ1.out hb
  (try clear hc hf)
  obtain ⟨hc, hf⟩ := bcell hz
  have HZ2 := Lib.hid hz
  clear hb hz
  go_wp2_with fail
  refine (check_any { oneH 1 with cool := 101 } _ _ _ _ (SlAt.below L21.out.1 HZ2.out (Nat.le_refl _)) (SlAt.below L21.out.2.1 HZ2.out (Nat.le_refl _)) (SlAt.below L21.out.2.2 HZ2.out (Nat.le_refl _))).mono ?_
  rintro e V3 ⟨rfl, hb⟩
  rw [nm_c3]
  have hz := bgo HZ2.out hb
  (try clear hc hf)
  obtain ⟨hc, hf⟩ := bcell hz
  have HZ3 := Lib.hid hz
  clear hb hz
  go_wp2_with fail
  refine (check_any { oneH 1 with die := 61 } _ _ _ _ (SlAt.below L22.out.1 HZ3.out (Nat.le_refl _)) (SlAt.below L22.out.2.1 HZ3.out (Nat.le_refl _)) (SlAt.below L22.out.2.2 HZ3.out (Nat.le_refl _))).mono ?_
  rintro e V4 ⟨rfl, hb⟩
  rw [nm_c4]
  have hz := bgo HZ3.out hb
  (try clear hc hf)
  obtain ⟨hc, hf⟩ := bcell hz
  have HZ4 := Lib.hid hz
  clear hb hz
  go_wp2_with fail
  refine (check_any { oneH 1 with wet := (oneH 1).wet.take 4 } _ _ _ _ (SlAt.below L23.out.1 HZ4.out (Nat.le_refl _)) (SlAt.below L23.out.2.1 HZ4.out (Nat.le_refl _)) (SlAt.below L23.out.2.2 HZ4.out (Nat.le_refl _))).mono ?_
  rintro e V5 ⟨rfl, hb⟩
  rw [nm_c5]
  have hz := bgo HZ4.out hb
  (try clear hc hf)
  obtain ⟨hc, hf⟩ := bcell hz
  have HZ5 := Lib.hid hz
  clear hb hz
  go_wp2_with fail
  refine (check_any { oneH 1 with turns := [1, 1] } _ _ _ _ (SlAt.below L24.out.1 HZ5.out (Nat.le_refl _)) (SlAt.below L24.out.2.1 HZ5.out (Nat.le_refl _)) (SlAt.below L24.out.2.2 HZ5.out (Nat.le_refl _))).mono ?_
  rintro e V6 ⟨rfl, hb⟩
  rw [nm_c6]
  have hz := bgo HZ5.out hb
  (try clear hc hf)
  obtain ⟨hc, hf⟩ := bcell hz
  have HZ6 := Lib.hid hz
  clear hb hz
  go_wp2_with fail
  refine (check_any { oneH 1 with readings := [(1, 53, 51)] } _ _ _ _ (SlAt.below L25.out.1 HZ6.out (Nat.le_refl _)) (SlAt.below L25.out.2.1 HZ6.out (Nat.le_refl _)) (SlAt.below L25.out.2.2 HZ6.out (Nat.le_refl _))).mono ?_
  rintro e V7 ⟨rfl, hb⟩
  rw [nm_c7]
  have hz := bgo HZ6.out hb
  (try clear hc hf)
  obtain ⟨hc, hf⟩ := bcell hz
  have HZ7 := Lib.hid hz
  clear hb hz
  go_wp2_with fail
  refine (check_any { oneH 1 with readings := [(0, 0, 0), (0, 0, 0), (0, 0, 0), (0, 0, 0), (0, 0, 0), (0, 0, 0)] } _ _ _ _ (SlAt.below L26.out.1 HZ7.out (Nat.le_refl _)) (SlAt.below L26.out.2.1 HZ7.out (Nat.le_refl _)) (SlAt.below L26.out.2.2 HZ7.out (Nat.le_refl _))).mono ?_
  rintro e V8 ⟨rfl, hb⟩
  rw [nm_c8]
  have hz := bgo HZ7.out hb
  (try clear hc hf)
  obtain ⟨hc, hf⟩ := bcell hz
  have HZ8 := Lib.hid hz
  clear hb hz
  go_wp2_with fail
  refine (check_any { oneH 1 with start := (0, 99), wet := [(10, 12), (10, 10), (0, 9), (8, 9), (10, 10)] } _ _ _ _ (SlAt.below L27.out.1 HZ8.out (Nat.le_refl _)) (SlAt.below L27.out.2.1 HZ8.out (Nat.le_refl _)) (SlAt.below L27.out.2.2 HZ8.out (Nat.le_refl _))).mono ?_
  rintro e V9 ⟨rfl, hb⟩
  rw [nm_c9]
  have hz := bgo HZ8.out hb
  (try clear hc hf)
  obtain ⟨hc, hf⟩ := bcell hz
  have HZ9 := Lib.hid hz
  clear hb hz
  go_wp2_with fail
  refine (check_any ⟨0, 0, 0, 0, 0, (0, 0), [], [], []⟩ (.slice none 0 0) (.slice none 0 0) (.slice none 0 0) V9 (pairs_nil V9) (ints_nil V9) (triples_nil V9)).mono ?_
  rintro e V10 ⟨rfl, hb⟩
  rw [nm_c10]
  have HZ10 := Lib.hid (bgo HZ9.out hb)
  clear hb hc hf
  go_wp2_with fail
  refine (awake_any V10).mono ?_
  rintro e V11 ⟨rfl, hb⟩
  have HZ11 := Lib.hid (bgo HZ10.out hb)
  clear hb
  go_wp2_with fail
  go_returns
  exact ⟨by simp, bgo HBW.out HZ11.out⟩

end Go.Proofs.Ytoibfafmnaooaaa

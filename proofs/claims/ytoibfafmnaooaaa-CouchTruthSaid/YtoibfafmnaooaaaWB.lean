/-
  Contracts of package couch, tenth part: lists.
  Contracts of package couch, eleventh part: the iterator of lists.
  Contracts of package couch, twelfth part: the iterator of truths.
  Contracts of package couch, thirteenth part: what goes through the truths.
  Contracts of package couch, fourteenth part: asked.
  Contracts of package couch, fifteenth part: kept.
-/
import Derived.WalkKit
import Derived.WalkLawsBesides
import Derived.WalkSpells
import Derived.Outline
import Derived.Handy
import Derived.KernelRfl
import Derived.Lib.Hide
import Derived.Test.YtoibfafmnaooaaaWA
import Derived.Test.YtoibfafmnaooaaaSeq
import Derived.Laws.EntriesVeiled
namespace Go.Proofs.Ytoibfafmnaooaaa
open Go.RowKit Go.RG Go.SL Go.Shelf Cou
set_option maxHeartbeats 400000
set_option maxRecDepth 10000
attribute [local go_sem] Oper.semAt_some

/-- What choose works with. -/
structure ChSt (W : World) (n bx by_ bo bc ob l : Nat) (o : List Int) : Prop where
  y : W.heap[by_]? = some (.cells #[.func (.yield l) #[] #[]] 119 (0, 0))
  out : W.heap[bo]? = some (.cells #[.slice (some ⟨ob, 0, none⟩) n n] 25 (0, 0))
  ch : W.heap[bc]? = some (.cells #[.func (.func 131) #[] #[.pointer (some ⟨bx, 0, none⟩), .pointer (some ⟨by_, 0, none⟩), .pointer (some ⟨bo, 0, none⟩), .pointer (some ⟨bc, 0, none⟩)]] 111 (0, 0))
  cells : W.heap[ob]? = some (.cells (intCells o).toArray 3 (0, 0))

theorem ChSt.kept {W W' : World} {n bx by_ bo bc ob l : Nat} {o : List Int} (h : ChSt W n bx by_ bo bc ob l o) (hk : ∀ m ∈ [ob, by_, bo, bc], m < W.heap.size → W'.heap[m]? = W.heap[m]?) : ChSt W' n bx by_ bo bc ob l o :=
  ⟨(hk _ (by simp) (Array.getElem?_eq_some_iff.1 h.y).1).trans h.y, (hk _ (by simp) (Array.getElem?_eq_some_iff.1 h.out).1).trans h.out, (hk _ (by simp) (Array.getElem?_eq_some_iff.1 h.ch).1).trans h.ch, (hk _ (by simp) (Array.getElem?_eq_some_iff.1 h.cells).1).trans h.cells⟩
theorem ChSt.below {W W' : World} {n bx by_ bo bc ob l : Nat} {o : List Int} (h : ChSt W n bx by_ bo bc ob l o) (hb : Below W.heap.size W W') : ChSt W' n bx by_ bo bc ob l o :=
  ⟨(hb.block _ (Array.getElem?_eq_some_iff.1 h.y).1).trans h.y, (hb.block _ (Array.getElem?_eq_some_iff.1 h.out).1).trans h.out, (hb.block _ (Array.getElem?_eq_some_iff.1 h.ch).1).trans h.ch, (hb.block _ (Array.getElem?_eq_some_iff.1 h.cells).1).trans h.cells⟩

theorem ChSt.set {W : World} {n bx by_ bo bc ob l : Nat} {o : List Int} (h : ChSt W n bx by_ bo bc ob l o) (hd1 : by_ ≠ ob) (hd2 : bo ≠ ob) (hd3 : bc ≠ ob) (i : Nat) (x : Int) : ChSt (W.setCell ⟨ob, i, none⟩ (iv x)) n bx by_ bo bc ob l (o.set i x) :=
  ⟨(Below.heap_setCell _ _ _ _ hd1).trans h.y, (Below.heap_setCell _ _ _ _ hd2).trans h.out, (Below.heap_setCell _ _ _ _ hd3).trans h.ch, by rw [← set_ints]; exact set_block h.cells _⟩

/-- A list is handed over as the slice of block ob. -/
def ListE (Ms : List Nat) (x : List Int) (v : Value) (W : World) : Prop :=
  ∃ ob : Nat, v = .slice (some ⟨ob, 0, none⟩) x.length x.length ∧ W.heap[ob]? = some (.cells (intCells x).toArray 3 (0, 0)) ∧ ob ∈ Ms

/-- The ranges lie in the box. -/
def ListInv (bx : Nat) (v : Value) (R : List Rng) (W : World) : Prop := W.heap[bx]? = some (.cells #[v] 37 (0, 0)) ∧ PairsAt W v R

theorem choose_any (R : List Rng) (hR : ∀ r ∈ R, 0 ≤ r.1 ∧ r.1 ≤ r.2 ∧ r.2 ≤ 500) (hn : R.length ≤ 100) (bx by_ bo bc ob l : Nat) (hd1 : by_ ≠ ob) (hd2 : bo ≠ ob) (hd3 : bc ≠ ob) (v : Value) (J : List Nat → Option Nat → World → Prop)
    (hInv : ∀ Ms s W1, J Ms s W1 → ListInv bx v R W1)
    (hstep : ∀ Ms Ms' s W1 W2, J Ms s W1 → Ext Ms W1 W2 → (∀ m ∈ Ms', m ∈ Ms ∨ (W1.heap.size ≤ m ∧ m < W2.heap.size)) → True → J Ms' s W2)
    (hY : ∀ Ms k v W1 (hk : k < (prodL R).length), J Ms (some k) W1 → ListE Ms (prodL R)[k] v W1 → YieldAt Fence.wide 0 Try.prog l #[v] W1 fun e W' =>
       ((∀ m ∈ Ms, m ∉ [] → m < W1.heap.size → W'.heap[m]? = W1.heap[m]?) ∧ W1.heap.size ≤ W'.heap.size) ∧ ((e = .returned (.bool true) ∧ J Ms (some (k + 1)) W') ∨ (e = .returned (.bool false) ∧ J Ms none W'))) :
    ∀ (m i k : Nat) (pre : List Int) (W : World) (o : List Int), i + m = R.length → pre.length = i → o.length = R.length → o.take i = pre → AtFrom R i k pre → ChSt W R.length bx by_ bo bc ob l o → J [ob, by_, bo, bc] (some k) W →
      CallsIn Fence.wide 0 Try.prog 131 #[iv i, .pointer (some ⟨bx, 0, none⟩), .pointer (some ⟨by_, 0, none⟩), .pointer (some ⟨bo, 0, none⟩), .pointer (some ⟨bc, 0, none⟩)] W
        (fun e W' => (e = .returned (.bool true) ∧ J [ob, by_, bo, bc] (some (k + (prodL (R.drop i)).length)) W' ∧ ∃ o', o'.length = R.length ∧ o'.take i = pre ∧ ChSt W' R.length bx by_ bo bc ob l o') ∨
          (e = .returned (.bool false) ∧ J [ob, by_, bo, bc] none W')) := by
  intro m
  induction m with
  | zero =>
    intro i k pre W o him hpl hol hot hat hst hJ
    obtain rfl : i = R.length := by omega
    obtain ⟨hone, hk, hx⟩ := hat.last rfl
    rw [hone]
    obtain rfl : o = pre := by rw [← hot, ← hol, List.take_length]
    obtain ⟨hbx, hsl⟩ := hInv _ _ _ hJ
    obtain ⟨f1, t1, a1, b1, hy1, hR1⟩ := hY _ k (.slice (some ⟨ob, 0, none⟩) R.length R.length) W hk hJ (by rw [hx]; exact ⟨ob, by rw [hol], hst.cells, by simp⟩)
    have c1 := cell_of_block0 hbx
    have c2 := cell_of_block0 hst.y
    have c3 := cell_of_block0 hst.out
    have hlen := hsl.len
    obtain ⟨so, sc, rfl⟩ := hsl.open
    have HR := Lib.hid hR1
    have HS := Lib.hid hst
    clear hInv hstep hY hR1 hst hJ hbx hsl hat
    refine callsIn_of_wp Try.func131 rfl trivial ?_
    simp only [Try.ntmps131, List.size_toArray, List.length_cons, List.length_nil, Nat.reduceAdd, Nat.reduceSub, Array.replicate_succ, Array.replicate_zero, List.push_toArray, List.append_toArray, List.nil_append, List.cons_append]
    gi_wp2_with fail
    refine HR.out.mono ?_
    rintro e W' ⟨⟨hkeep, hsz⟩, ⟨rfl, hJ⟩ | ⟨rfl, hJ⟩⟩
    · have HJ := Lib.hid hJ
      have HK := Lib.hid hkeep
      clear hJ hkeep
      gi_wp2_with fail
      go_returns
      exact .inl ⟨by simp, HJ.out, o, hol, hot, HS.out.kept (fun m hm hml => HK.out m hm (by simp) hml)⟩
    · have HJ := Lib.hid hJ
      have HK := Lib.hid hkeep
      clear hJ hkeep
      gi_wp2_with fail
      go_returns
      exact .inr ⟨by simp, HJ.out⟩
  | succ m ih =>
    intro i k pre W o him hpl hol hot hat hst hJ
    have hi : i < R.length := by omega
    have hcount := AtFrom.count hi
    obtain ⟨hr0, hr1, hr2⟩ := hR R[i] (List.getElem_mem hi)
    obtain ⟨hbx, hsl⟩ := hInv _ _ _ hJ
    have c1 := cell_of_block0 hbx
    have c2 := cell_of_block0 hst.y
    have c3 := cell_of_block0 hst.out
    have c4 := cell_of_block0 hst.ch
    have hlen := hsl.len
    obtain ⟨so, sc, rfl⟩ := hsl.open
    obtain ⟨b, off, rfl, hb, hc0, hc1⟩ := PairsAt.cell hsl hi
    have HAT := Lib.hid hat
    have HI := Lib.hid hInv
    have HST := Lib.hid hstep
    have HS := Lib.hid hst
    have HJ := Lib.hid hJ
    have HIH := Lib.hid ih
    have HSL := Lib.hid hsl
    have HBX := Lib.hid hbx
    have hiI : (i : Int) < R.length := by omega
    have hne : (i : Int) ≠ R.length := by omega
    have hneb : ((i : Int) == R.length) = false := by simpa using hne
    have HN : Hid (AtFrom R i k pre ∧ i < R.length) := Lib.hid ⟨hat, hi⟩
    have HOL := Lib.hid (And.intro hol hot)
    have HCT := Lib.hid hcount
    have hsize : ∃ z : Nat, sizeR R[i] = z ∧ z ≤ 501 := ⟨(sizeR R[i]).toNat, by unfold sizeR; omega, by unfold sizeR; omega⟩
    obtain ⟨z, hz, hz501⟩ := hsize
    have HNX : Hid (∀ c : Nat, c < z → AtFrom R (i + 1) (k + c * (prodL (R.drop (i + 1))).length) (pre ++ [R[i].1 + (c : Int)])) := Lib.hid (fun c hc => hat.next hi c (by omega))
    have HCZ : Hid ((prodL (R.drop i)).length = z * (prodL (R.drop (i + 1))).length) := Lib.hid (by rw [hcount, hz]; simp)
    clear hInv hstep hY hat hst hJ ih hsl hbx hcount hne hol hot hR
    generalize hri : R[i] = r at *
    have HRI := Lib.hid hri
    clear hri
    have HZ := Lib.hid hz
    clear hz HCT
    have hbs := World.block_lt_of_cell? W _ c1
    have hys := World.block_lt_of_cell? W _ c2
    have hos := World.block_lt_of_cell? W _ c3
    have hcs := World.block_lt_of_cell? W _ c4
    refine callsIn_of_wp Try.func131 rfl trivial ?_
    simp only [Try.ntmps131, List.size_toArray, List.length_cons, List.length_nil, Nat.reduceAdd, Nat.reduceSub, Array.replicate_succ, Array.replicate_zero, List.push_toArray, List.append_toArray, List.nil_append, List.cons_append]
    gi_wp2_with fail
    refine ((callsIn_wide.2 (size_any r W hr0 hr1 (by omega)))).mono ?_
    rintro e W1 ⟨rfl, hb1⟩
    rw [HZ.out]
    have HB1 := Lib.hid hb1
    obtain ⟨hc, hf⟩ := bcell hb1
    clear hb1
    gi_wp2_with fail
    have hst1 : ChSt W1 R.length bx by_ bo bc ob l o := HS.out.below HB1.out
    have hJ1 : J [ob, by_, bo, bc] (some k) W1 := HST.out _ _ _ _ _ HJ.out (Ext.of_below HB1.out) (fun m hm => .inl hm) trivial
    have HS1 := Lib.hid hst1
    have HJ1 := Lib.hid hJ1
    clear hst1 hJ1 hc hf
    gi_loopw [7, 20] (fun _ u wr => ∃ c : Nat, c ≤ z ∧ u = .int .i64 c ∧ ∃ o' : List Int, o'.length = R.length ∧ o'.take i = pre ∧ ChSt wr R.length bx by_ bo bc ob l o' ∧ J [ob, by_, bo, bc] (some (k + c * (prodL (R.drop (i + 1))).length)) wr)
      (fun _ u _ => z - (intOf u).toNat)
    case atStart => exact ⟨0, Nat.zero_le _, rfl, o, HOL.out.1, HOL.out.2, HS1.out, by simpa using HJ1.out⟩
    case round =>
      obtain ⟨c, hcz, rfl, o', ho1, ho2, hst, hJ⟩ := hrel
      by_cases hlt : c < z
      · obtain ⟨hbx, hsl⟩ := HI.out _ _ _ hJ
        have d1 := cell_of_block0 hbx
        have d2 := cell_of_block0 hst.y
        have d3 := cell_of_block0 hst.out
        have d4 := cell_of_block0 hst.ch
        have hd1' := World.block_lt_of_cell? wr _ d1
        have hd2' := World.block_lt_of_cell? wr _ d2
        have hd3' := World.block_lt_of_cell? wr _ d3
        have hd4' := World.block_lt_of_cell? wr _ d4
        obtain ⟨b', off', hbb, hb', e0, e1⟩ := PairsAt.cell hsl HN.out.2
        cases hbb
        rw [HRI.out] at e0 e1
        have hio : i < o'.length := by omega
        have d5 := cell_of_ints hst.cells hio
        have hd5' := World.block_lt_of_cell? wr _ d5
        have hfr := frozen_of_block hst.cells
        have HSt := Lib.hid hst
        have HJt := Lib.hid hJ
        have HO := Lib.hid (And.intro ho1 ho2)
        clear hst hJ hbx hsl ho1 ho2 c1 c2 c3 c4 hc0 hc1
        have hltI : (c : Int) < z := by omega
        gi_wp2_with fail
        refine wpIn_region_rg 10 [] none [] (by kernel_rfl) (by kernel_rfl) (by kernel_rfl) ?_
        simp only [List.take_succ_cons, List.take_zero, List.drop_succ_cons, List.drop_zero]
        repeat (refine tree_det (by rfl) _ (by rfl) (fun W hW => by go_simp; (try simp (disch := omega) only [IntWalk.i64_in]); try rfl) ?_; simp only [Act.put, List.setIfInBounds_toArray, List.set_cons_succ, List.set_cons_zero])
        intro W hE hF
        obtain ⟨hc, hf⟩ := bcell hE.below
        have hzE := hE.size
        (try simp only [World.size_alloc] at hzE)
        have HE := Lib.hid hE.below
        clear hE hF
        gi_wp2_with fail
        have hstS := (HSt.out.below HE.out).set hd1 hd2 hd3 i (r.1 + (c : Int))
        have hJS : J [ob, by_, bo, bc] (some (k + c * (prodL (R.drop (i + 1))).length)) (W.setCell ⟨ob, i, none⟩ (iv (r.1 + (c : Int)))) :=
          HST.out _ _ _ _ _ (HST.out _ _ _ _ _ HJt.out (Ext.of_below HE.out) (fun m hm => .inl hm) trivial) ((ext_set W ⟨ob, i, none⟩ _).more (fun x hx => by simp at hx; subst hx; simp)) (fun m hm => .inl hm) trivial
        have hcall := HIH.out (i + 1) _ (pre ++ [r.1 + (c : Int)]) _ (o'.set i (r.1 + (c : Int))) (by omega) (by simp [hpl]) (by simp [HO.out.1]) (by
          rw [List.take_set]
          rw [List.take_add_one, HO.out.2]
          have hio : i < o'.length := by have := HO.out.1; omega
          rw [List.getElem?_eq_getElem hio]
          simp [List.set_append_right, hpl]) (HNX.out c hlt) hstS hJS
        rw [show ((i + 1 : Nat) : Int) = (i : Int) + 1 from by omega] at hcall
        have HCALL := Lib.hid hcall
        clear hcall hstS hJS
        refine HCALL.out.mono ?_
        rintro e W2 (⟨rfl, hJ2, o2, ho1, ho2, hst2⟩ | ⟨rfl, hJ2⟩)
        · have HJ2 := Lib.hid hJ2
          have HST2 := Lib.hid hst2
          have HO2 := Lib.hid (And.intro ho1 ho2)
          clear hJ2 hst2 ho1 ho2 hc hf d1 d2 d3 d4 d5 hfr e0 e1
          gi_wp2_with fail
          go_roundw
          case rel =>
            refine ⟨c + 1, by omega, by go_num, o2, HO2.out.1, ?_, HST2.out, ?_⟩
            · have := congrArg (List.take i) HO2.out.2
              rw [List.take_take, Nat.min_eq_left (by omega)] at this
              rw [this, List.take_append_of_le_length (by omega), List.take_of_length_le (by omega)]
            · rw [Nat.add_mul, Nat.one_mul, ← Nat.add_assoc]; exact HJ2.out
          case measure => simp [intOf]; omega
        · have HJ2 := Lib.hid hJ2
          clear hJ2 hc hf d1 d2 d3 d4 d5 hfr e0 e1
          gi_wp2_with fail
          go_returns
          exact .inr ⟨by simp, HJ2.out⟩
      · have hcz' : c = z := by omega
        subst hcz'
        have HJt := Lib.hid hJ
        have HSt := Lib.hid hst
        have HO := Lib.hid (And.intro ho1 ho2)
        clear hJ hst ho1 ho2 c1 c2 c3 c4 hc0 hc1
        gi_wp2_with fail
        go_returns
        refine .inl ⟨by simp, ?_, o', HO.out.1, HO.out.2, HSt.out⟩
        rw [HCZ.out]; exact HJt.out

end Go.Proofs.Ytoibfafmnaooaaa

namespace Go.Proofs.Ytoibfafmnaooaaa
open Go.RowKit Go.RG Go.SL Go.Shelf Cou
set_option maxHeartbeats 400000
set_option maxRecDepth 10000

theorem make_ints (n : Nat) (hn : n ≤ 1000) (W : World) :
    (Instr.makeSlice 25 (iv n) (iv n)).run Try.prog W = .ok (.slice (some ⟨W.heap.size, 0, none⟩) n n) (W.alloc (.cells (intCells (List.replicate n 0)).toArray 3)) := by
  obtain ⟨i, hi, hz, hs, hby⟩ := info_parts tInts.info
  have := run_make (P := Try.prog) W 25 3 i (iv 0) tInts.und hi hz .i64 .i64 n n (by omega) (Int.le_refl _) (by rw [hby]; omega) (by omega)
  rw [this, hs]
  simp only [Int.toNat_natCast]
  congr 3
  apply Array.ext
  · simp [madeCells, intCells]
  · intro j h1 h2
    simp [madeCells, intCells, Value.cells]
    rw [Nat.mod_one]
    rfl

theorem heap_new3 (w : World) (A B C D : Obj) : ((((w.alloc A).alloc B).alloc C).alloc D).heap[w.heap.size + 1 + 1 + 1]? = some D := by
  have := heap_alloc_new (((w.alloc A).alloc B).alloc C) D; rwa [World.size_alloc, World.size_alloc, World.size_alloc] at this

theorem lists_seq (R : List Rng) (hR : ∀ r ∈ R, 0 ≤ r.1 ∧ r.1 ≤ r.2 ∧ r.2 ≤ 500) (hn : R.length ≤ 100) (bx : Nat) (v : Value) :
    SeqC Try.prog 130 #[.pointer (some ⟨bx, 0, none⟩)] (prodL R) ListE [] (fun _ => True) (ListInv bx v R) := by
  intro l J W hInv hstep hY h0
  obtain ⟨hbx, hsl⟩ := hInv _ _ _ h0
  have hch := fun by_ bo bc ob hd1 hd2 hd3 => choose_any R hR hn bx by_ bo bc ob l hd1 hd2 hd3 v J hInv hstep hY
  have c1 := cell_of_block0 hbx
  have hb1 := World.block_lt_of_cell? W _ c1
  have hlen := hsl.len
  obtain ⟨so, sc, rfl⟩ := hsl.open
  have HCH := Lib.hid hch
  have HST := Lib.hid hstep
  have HJ := Lib.hid h0
  have hmk := make_ints R.length (by omega)
  have hn3 : ∀ (A B C : Obj) (v : Value) (t : TypeId), ((((W.alloc A).alloc B).alloc C).alloc (.cells #[v] t)).cell? ⟨W.heap.size + 1 + 1 + 1, 0, none⟩ = some v := fun A B C v t => cell_of_block0 (heap_new3 W A B C _)
  have hf3 : ∀ (A B C : Obj) (v : Value) (t : TypeId), ((((W.alloc A).alloc B).alloc C).alloc (.cells #[v] t)).frozen? ⟨W.heap.size + 1 + 1 + 1, 0, none⟩ = false := fun A B C v t => frozen_of_block (heap_new3 W A B C _) 0
  clear hInv hstep hY hch h0 hbx hsl hR
  go_enter Try.func130, Try.ntmps130
  go_wp2_with fail
  refine (callsIn_wide.1 (HCH.out W.heap.size (W.heap.size + 1 + 1) (W.heap.size + 1 + 1 + 1) (W.heap.size + 1) (by omega) (by omega) (by omega) R.length 0 0 [] _ (List.replicate R.length 0) (by omega) rfl (by simp) (by simp) (AtFrom.zero R) ⟨?_, ?_, ?_, ?_⟩
    (HST.out _ _ _ _ _ HJ.out (Ext.of_below (by repeat (first | exact Below.refl _ _ | assumption | refine bgo ?_ (by assumption) | refine bgoAlloc ?_ _ | refine bgoDrew ?_ | refine bgoSet ?_ (by simp; omega) _))) (fun m hm => .inr (by simp at hm; (first | omega | (simp; omega)))) trivial))).mono ?_
  · exact ((Below.heap_alloc _ _ _ (by simp; omega)).trans ((Below.heap_alloc _ _ _ (by simp; omega)).trans ((Below.heap_alloc _ _ _ (by simp)).trans (heap_new0 _ _))))
  · exact ((Below.heap_alloc _ _ _ (by simp)).trans (heap_new2 _ _ _ _))
  · exact heap_new3 _ _ _ _ _
  · exact ((Below.heap_alloc _ _ _ (by simp)).trans ((Below.heap_alloc _ _ _ (by simp)).trans (heap_new1 _ _ _)))
  · rintro e W2 (⟨rfl, hJ2, _⟩ | ⟨rfl, hJ2⟩)
    · have HJ2 := Lib.hid hJ2
      clear hJ2 hn3 hf3 hmk
      go_wp2_with fail
      go_end0
      exact ⟨⟨_, rfl⟩, _, .inl (by simpa using HJ2.out)⟩
    · have HJ2 := Lib.hid hJ2
      clear hJ2 hn3 hf3 hmk
      go_wp2_with fail
      go_end0
      exact ⟨⟨_, rfl⟩, _, .inr HJ2.out⟩

/-- lists RETURNS ITS ITERATOR: the ranges are boxed. -/
theorem lists_any (o : Option Addr) (n c : Nat) (w : World) :
    Calls Try.prog 117 #[.slice o n c] w (fun e w' => e = .returned (.func (.func 130) #[] #[.pointer (some ⟨w.heap.size, 0, none⟩)]) ∧ w' = w.alloc (.cells #[.slice o n c] 37)) := by
  go_enter Try.func117, Try.ntmps117
  go_wp2
  go_returns
  exact ⟨by simp, rfl⟩

end Go.Proofs.Ytoibfafmnaooaaa

namespace Go.Proofs.Ytoibfafmnaooaaa
open Go.RowKit Go.RG Go.SL Go.Shelf Cou
set_option maxHeartbeats 400000
set_option maxRecDepth 10000
attribute [local go_sem] Oper.semAt_some

theorem ranges_own (h : HeapD) (o : Option Addr) (cc : Nat) (b c : Value) (w : World) (hw : PairsAt w (.slice o h.wet.length cc) h.wet) (hlen : h.wet.length ≤ 1000) :
    Calls Try.prog 100 #[hv h (.slice o h.wet.length cc) b c] w (POwn 36 2 (h.wet.length + 1) (pairCells (h.start :: h.wet)) w) := by
  have HW := Lib.hid hw
  clear hw
  go_enter Try.func100, Try.ntmps100
  go_wp2_with (at_builtin; refine wpList_append rfl _ _ tPairs rfl (w.heap.size + 1) (.slice (some ⟨w.heap.size + 1, 0, none⟩) 1 1) 1 [iv h.start.1, iv h.start.2] rfl ?_ (.slice o h.wet.length cc) h.wet.length (pairCells h.wet) rfl ?_ (one_pairs _) (by omega) (by omega) (by simp) ?_)
  · exact owns_block (heap_new1 _ _ _) rfl (Nat.le_refl _) (by decide)
  · exact (HW.out.alloc _).alloc _
  · intro v' w1 hown hgrow
    have HO := Lib.hid hown
    have HG := Lib.hid hgrow
    clear hown hgrow
    go_wp2
    go_returns
    refine ⟨v', by simp, ?_, ?_⟩
    · have := HO.out
      rw [Nat.add_comm 1 h.wet.length] at this
      exact ⟨this.1, this.2.imp id (fun ⟨g, cap, cur, h1, h2, h3⟩ => ⟨g, cap, cur, h1, by omega, h3⟩)⟩
    · exact Below.grown (bgoAlloc (bgoAlloc (Below.refl _ _) _) _) HG.out (by simp; omega) (fun k e => by cases e; show _ ≤ w.heap.size + 1; omega)

theorem slice_rest (ob n : Nat) (hn : 1 ≤ n) (W : World) :
    (Instr.slice 25 (.slice (some ⟨ob, 0, none⟩) (n + 1) (n + 1)) (some (iv 1)) none none).run Try.prog W = .ok (.slice (some ⟨ob, 1, none⟩) n n) W := by
  have h0 : ¬ n + 1 = 1 := by omega
  have h1 : (1 : Int) ≤ ((n + 1 : Nat) : Int) := by omega
  have := run_slice_l (P := Try.prog) W 25 (some ⟨ob, 0, none⟩) (n + 1) (n + 1) (by kernel_rfl) .i64 1 (by omega) h1
  rw [this]
  have h2 : ¬ n = 0 := by omega
  simp [go_sem, sliced, h2]

/-- All cells of a block are written. -/
theorem store_block (P : Program) {w : World} {g : Nat} {t : TypeId} {cur : Array Value} (ys : List Int) (hg : w.heap[g]? = some (.cells cur t (0, 0))) (hl : cur.size = ys.length) :
    ∃ w', (storeCells ⟨g, 0, none⟩ (intCells ys)).run P w = .ok () w' ∧ w'.heap[g]? = some (.cells (intCells ys).toArray t (0, 0)) ∧ Ext [g] w w' := by
  have hil : (intCells ys).length = ys.length := by simp [intCells]
  have h := run_storeCells_at P g 0 t (intCells ys) 0 cur w hg (by omega) (one_ints ys)
  refine ⟨_, h, ?_, rfl, rfl, rfl, by simp, fun k _ hm => setRow_other _ _ _ _ (by simpa using hm)⟩
  rw [setRow_heap w g cur _ t _ hg]
  simp
  omega

/-- What the iterator of truths asks of the world at every moment. -/
structure TInv (wb mb bw bo : Nat) (h : HeapD) (a b c ov : Value) (out : List Int) (W : World) : Prop where
  w : W.heap[bw]? = some (.cells #[.pointer (some ⟨wb, 0, none⟩)] 106 (0, 0))
  o : W.heap[bo]? = some (.cells #[ov] 25 (0, 0))
  work : WorkAt W wb mb h a b c
  wet : PairsAt W a h.wet
  turns : IntsAt W b h.turns
  readings : TriplesAt W c h.readings
  out : IntsAt W ov out

theorem TInv.below {wb mb bw bo : Nat} {h : HeapD} {a b c ov : Value} {out : List Int} {W W' : World} (t : TInv wb mb bw bo h a b c ov out W) (hb : Below W.heap.size W W') : TInv wb mb bw bo h a b c ov out W' :=
  ⟨(hb.block _ (Array.getElem?_eq_some_iff.1 t.w).1).trans t.w, (hb.block _ (Array.getElem?_eq_some_iff.1 t.o).1).trans t.o, t.work.below hb (Nat.le_refl _), t.wet.below hb (Nat.le_refl _), t.turns.below hb (Nat.le_refl _),
    t.readings.below hb (Nat.le_refl _), t.out.below hb (Nat.le_refl _)⟩

theorem ext_newer {Ms : List Nat} {a b c : World} {x : Nat} (h : Ext Ms a b) (k : Ext [x] b c) (hx : a.heap.size ≤ x) : Ext Ms a c :=
  ⟨k.os.trans h.os, k.tape.trans h.tape, k.output.trans h.output, Nat.le_trans h.size k.size,
    fun i hi hm => (k.block i (Nat.lt_of_lt_of_le hi h.size) (by simp; omega)).trans (h.block i hi hm)⟩

theorem skipR {l n : Nat} {P : Program} {ops : Array Oper} {Q : Exit → Act → World → Prop} {a : Act} {w : World} {rest : List Oper} {o : Oper} (hw : Region.wanted o (yielded ops a.tmps) = false)
    (h : wpListIn (Fence.wide.inRound l) n P ops Q rest (a.put o.dst undef) w) : wpListIn (Fence.wide.inRound l) n P ops Q (o :: rest) a w := by
  simp only [wpListIn, hw]
  exact ⟨fun _ _ => trivial, h⟩

theorem range_all_succ (q : Nat) (f : Nat → Bool) : (List.range (q + 1)).all f = ((List.range q).all f && f q) := by
  rw [List.range_succ, List.all_append]
  simp

theorem not_mb {W : World} {mb b : Nat} {cool : Int} {cs : Array Value} {t : TypeId} {f : Nat × Nat} (hc : Cache W mb cool) (h : W.heap[b]? = some (Obj.cells cs t f)) : ¬ b = mb := by
  intro e; subst e; exact hc.noCells _ _ _ h

/-- A truth is handed over as its start and the rest of the slice of block ob. -/
def TruthE (mb : Nat) (Ms : List Nat) (t : Int × List Int) (v : Value) (W : World) : Prop :=
  ∃ ob : Nat, v = .agg #[iv t.1, .slice (some ⟨ob, 1, none⟩) t.2.length t.2.length] ∧ IntsAt W (.slice (some ⟨ob, 1, none⟩) t.2.length t.2.length) t.2 ∧ ob ∈ Ms ∧ ob ≠ mb

/-- The iterator's own blocks: the table, the box of yield, the box and the block of the ranges, the loop's two. -/
abbrev pvs (mb tb bx rb d : Nat) : List Nat := [mb, tb, bx, rb, d, d + 1]

/-- What the iterator keeps for itself, beside what the inner one turns. -/
structure Priv (l mb tb bx rb d cap : Nat) (R : List Rng) (Ms : List Nat) (W : World) : Prop where
  y : W.heap[tb]? = some (.cells #[.func (.yield l) #[] #[]] 125 (0, 0))
  box : ListInv bx (.slice (some ⟨rb, 0, none⟩) R.length cap) R W
  apart : ∀ m ∈ Ms, m ∉ pvs mb tb bx rb d
  small : ∀ p ∈ pvs mb tb bx rb d, p < W.heap.size

theorem ListInv.kept {bx rb cap : Nat} {R : List Rng} {n : Nat} {W W' : World} (h : ListInv bx (.slice (some ⟨rb, 0, none⟩) n cap) R W) (h1 : W'.heap[bx]? = W.heap[bx]?) (h2 : W'.heap[rb]? = W.heap[rb]?) :
    ListInv bx (.slice (some ⟨rb, 0, none⟩) n cap) R W' :=
  ⟨h1.trans h.1, h.2.kept fun b off n c hv _ => by cases hv; exact h2⟩

theorem Priv.kept {l mb tb bx rb d cap : Nat} {R : List Rng} {Ms Ms' : List Nat} {W W' : World} (h : Priv l mb tb bx rb d cap R Ms W) (hs : W.heap.size ≤ W'.heap.size) (hk : ∀ p ∈ [tb, bx, rb], W'.heap[p]? = W.heap[p]?)
    (hMs : ∀ m ∈ Ms', m ∈ Ms ∨ (W.heap.size ≤ m ∧ m < W'.heap.size)) : Priv l mb tb bx rb d cap R Ms' W' :=
  ⟨(hk _ (by simp)).trans h.y, h.box.kept (hk _ (by simp)) (hk _ (by simp)), fun m hm hp => by
    rcases hMs m hm with h1 | h1
    · exact h.apart m h1 hp
    · have := h.small m hp; omega, fun p hp => by have := h.small p hp; omega⟩

theorem Priv.ext {l mb tb bx rb d cap : Nat} {R : List Rng} {Ms Ms' : List Nat} {W W' : World} (h : Priv l mb tb bx rb d cap R Ms W) (hE : Ext Ms W W')
    (hMs : ∀ m ∈ Ms', m ∈ Ms ∨ (W.heap.size ≤ m ∧ m < W'.heap.size)) : Priv l mb tb bx rb d cap R Ms' W' :=
  h.kept hE.size (fun p hp => hE.block p (h.small p (by simp at hp ⊢; omega)) (fun hm => h.apart p hm (by simp at hp ⊢; omega))) hMs

section
variable {l mb tb bx rb d cap : Nat} {R : List Rng} {wb bw bo : Nat} {h : HeapD} {a b c ov : Value} {out : List Int} {J : List Nat → Option Nat → World → Prop}
  (hInv : ∀ Ms s W1, J Ms s W1 → TInv wb mb bw bo h a b c ov out W1)
  (hstep : ∀ Ms Ms' s W1 W2, J Ms s W1 → Ext Ms W1 W2 → (∀ m ∈ Ms', m ∈ Ms ∨ (W1.heap.size ≤ m ∧ m < W2.heap.size)) → Cache W2 mb h.cool → J Ms' s W2)
include hInv hstep

/-- The caller's invariant through a step of the inner iterator. -/
theorem J_inner {Ms Ms' : List Nat} {s : Option Nat} {W1 W2 : World} (hp : Priv l mb tb bx rb d cap R Ms W1) (hJ : J (pvs mb tb bx rb d ++ Ms) s W1) (hE : Ext Ms W1 W2) (hMs : ∀ m ∈ Ms', m ∈ Ms ∨ (W1.heap.size ≤ m ∧ m < W2.heap.size)) :
    J (pvs mb tb bx rb d ++ Ms') s W2 := by
  refine hstep _ _ _ _ _ hJ (hE.more fun x hx => List.mem_append_right _ hx) ?_ ?_
  · intro m hm
    rcases List.mem_append.1 hm with h1 | h1
    · exact .inl (List.mem_append_left _ h1)
    · exact (hMs m h1).imp (fun h2 => List.mem_append_right _ h2) id
  · have hc := (hInv _ _ _ hJ).work.cache
    exact hc.kept (hE.block _ hc.lt (fun hm => hp.apart _ hm (by simp)))

/-- The caller's invariant where one of the iterator's own blocks is turned that is not the table. -/
theorem J_put {Ms : List Nat} {s : Option Nat} {W : World} {r : Nat} (o : Obj) (hr : r ∈ pvs mb tb bx rb d) (hm : r ≠ mb) (hJ : J (pvs mb tb bx rb d ++ Ms) s W) : J (pvs mb tb bx rb d ++ Ms) s (W.putObj r o) := by
  refine hstep _ _ _ _ _ hJ ((ext_put W r o).more fun x hx => ?_) (fun m hm => .inl hm) ?_
  · have : x = r := by simpa using hx
    subst this
    exact List.mem_append_left _ hr
  · exact (hInv _ _ _ hJ).work.cache.kept (World.putObj_heap_other (Ne.symm hm))

/-- The caller's invariant where the table is turned. -/
theorem J_table {Ms : List Nat} {s : Option Nat} {W W' : World} (hJ : J (pvs mb tb bx rb d ++ Ms) s W) (hE : Ext [mb] W W') (hc : Cache W' mb h.cool) : J (pvs mb tb bx rb d ++ Ms) s W' :=
  hstep _ _ _ _ _ hJ (hE.more fun x hx => by simp at hx; subst hx; simp) (fun m hm => .inl hm) hc
end

set_option maxHeartbeats 8000000 in
theorem truths_seq (h : HeapD) (hS : Sound h) (a b c ov : Value) (out : List Int) (wb mb bw bo : Nat) :
    SeqC Try.prog 116 #[.pointer (some ⟨bw, 0, none⟩), .pointer (some ⟨bo, 0, none⟩)] (truthsL h out) (TruthE mb) [mb] (fun W => Cache W mb h.cool) (TInv wb mb bw bo h a b c ov out) := by
  intro l J W hInv hstep hY h0
  have hT := hInv _ _ _ h0
  obtain ⟨oa, ca, rfl⟩ := hT.wet.open
  obtain ⟨otn, cb, rfl⟩ := hT.turns.open
  obtain ⟨oc, cc, rfl⟩ := hT.readings.open
  obtain ⟨oo, co, rfl⟩ := hT.out.open
  have c1 := cell_of_block0 hT.w
  have hb1 := World.block_lt_of_cell? W _ c1
  have c2 := hT.work.cell
  have hb2 := hT.work.lt
  have HT := Lib.hid hT
  have HI := Lib.hid hInv
  have HST := Lib.hid hstep
  have HY := Lib.hid hY
  have HJ := Lib.hid h0
  have HSS := Lib.hid hS
  have hwl : h.wet.length ≤ 10 := by have := hS.wetLen; have := hS.last9; omega
  clear hInv hstep hY h0 hT hS
  refine (callsIn_wide (n := 0)).1 ?_
  refine callsIn_of_wp_marks Try.func116 rfl trivial ?_
  simp only [Try.ntmps116, List.size_toArray, List.length_cons, List.length_nil, Nat.reduceAdd, Nat.reduceSub, Array.replicate_succ, Array.replicate_zero, List.push_toArray, List.append_toArray, List.nil_append, List.cons_append]
  gi_wp2_with fail
  refine (callsIn_wide.2 (ranges_own h oa ca _ _ _ (HT.out.wet.alloc _) (by omega))).mono ?_
  rintro e w1 ⟨v1, rfl, hown, hb⟩
  obtain ⟨rb, cap, rfl, hrb, hrl⟩ : ∃ rb cap : Nat, v1 = .slice (some ⟨rb, 0, none⟩) (h.wet.length + 1) cap ∧ W.heap.size < rb ∧ PairsAt w1 (.slice (some ⟨rb, 0, none⟩) (h.wet.length + 1) cap) (h.start :: h.wet) := by
    have hsl := SlAt.of_owns hown
    rcases hown.2 with ⟨rfl, h0⟩ | ⟨g, cp, cur, rfl, hbg, hrest⟩
    · omega
    · exact ⟨g, cp, rfl, by simp at hbg; omega, hsl⟩
  have HB1 := Lib.hid (show Below W.heap.size W w1 from bgo (bgoAlloc (Below.refl _ _) _) hb)
  have HTB := Lib.hid ((hb.block W.heap.size (by simp)).trans (heap_new0 _ _))
  have hsz1 := hb.size
  have HRL := Lib.hid hrl
  clear hown hb hrl c1 c2
  gi_wp2_with fail
  refine (callsIn_wide.2 (lists_any _ _ _ w1)).mono ?_
  rintro e w2 ⟨rfl, rfl⟩
  gi_wp2_with fail
  obtain ⟨w2, hw2⟩ : ∃ w2, w1.alloc (.cells #[.slice (some ⟨rb, 0, none⟩) (h.wet.length + 1) cap] 37) = w2 := ⟨_, rfl⟩
  have hsz2 : w2.heap.size = w1.heap.size + 1 := by rw [← hw2]; simp
  have hB12 : Below w1.heap.size w1 w2 := by rw [← hw2]; exact bgoAlloc (Below.refl _ _) _
  have hbx2 : w2.heap[w1.heap.size]? = some (.cells #[.slice (some ⟨rb, 0, none⟩) (h.wet.length + 1) cap] 37 (0, 0)) := by rw [← hw2]; exact heap_new0 _ _
  rw [hw2]
  have htb2 := (hB12.block _ (Array.getElem?_eq_some_iff.1 HTB.out).1).trans HTB.out
  have hrl2 : PairsAt w2 (.slice (some ⟨rb, 0, none⟩) (h.wet.length + 1) cap) (h.start :: h.wet) := HRL.out.below hB12 (Nat.le_refl _)
  have hrb2 : rb < w1.heap.size := by
    obtain ⟨b', off', hbb, hlt, _⟩ := PairsAt.cell HRL.out (show 0 < (h.start :: h.wet).length by simp)
    cases hbb; exact hlt
  have hwsz : W.heap.size < w1.heap.size := (Array.getElem?_eq_some_iff.1 HTB.out).1
  have hmb : mb < W.heap.size := HT.out.work.cache.lt
  have hBW2 : Below W.heap.size W w2 := bgo HB1.out hB12
  have HP0 : Hid (∀ o o', Priv l mb W.heap.size w1.heap.size rb w2.heap.size cap (h.start :: h.wet) [] ((w2.alloc o).alloc o')) := Lib.hid (fun o o' =>
    ⟨(Below.heap_alloc _ _ _ (by simp; omega)).trans ((Below.heap_alloc _ _ _ (by omega)).trans htb2),
      ListInv.kept (W := w2) ⟨hbx2, hrl2⟩ ((Below.heap_alloc _ _ _ (by simp; omega)).trans (Below.heap_alloc _ _ _ (by omega))) ((Below.heap_alloc _ _ _ (by simp; omega)).trans (Below.heap_alloc _ _ _ (by omega))), by simp,
      fun p hp => by simp at hp ⊢; omega⟩)
  have HJ0 : Hid (∀ o o', J (pvs mb W.heap.size w1.heap.size rb w2.heap.size ++ []) (some (cnt h out 0)) ((w2.alloc o).alloc o')) := Lib.hid (fun o o' => by
    have hBW : Below W.heap.size W ((w2.alloc o).alloc o') := bgoAlloc (bgoAlloc hBW2 _) _
    exact HST.out _ _ _ _ _ HJ.out (Ext.of_below hBW) (fun m hm => by simp at hm ⊢; omega) (HT.out.work.cache.kept (hBW.block mb hmb)))
  clear hw2 hbx2 htb2 hrl2 hB12
  refine wpIn_rangeC (lists_seq (h.start :: h.wet) ?hR (by simp; omega) w1.heap.size (.slice (some ⟨rb, 0, none⟩) (h.wet.length + 1) cap)) rfl (enters_of Try.func130 (by kernel_rfl) rfl) rfl (by simp)
    (fun Ms k W' => Priv l mb W.heap.size w1.heap.size rb w2.heap.size cap (h.start :: h.wet) Ms W' ∧ J (pvs mb W.heap.size w1.heap.size rb w2.heap.size ++ Ms) (some (cnt h out k)) W')
    (fun c Ms W' => c = .ret ∧ Priv l mb W.heap.size w1.heap.size rb w2.heap.size cap (h.start :: h.wet) Ms W' ∧ J (pvs mb W.heap.size w1.heap.size rb w2.heap.size ++ Ms) none W')
    ?hInv ?hInvx ?hI ?hIx ?hIp ?hIxp (fun o o' => ⟨HP0.out o o', HJ0.out o o'⟩)
    (fun a Ms k W1 a₁ W' => ∃ ob : Nat, a₁ = { tmps := (a.tmps.setIfInBounds 16 (.slice (some ⟨ob, 0, none⟩) (h.wet.length + 1) (h.wet.length + 1))).setIfInBounds 4 (.slice (some ⟨ob, 0, none⟩) (h.wet.length + 1) (h.wet.length + 1)), defers := [] } ∧
      Priv l mb W.heap.size w1.heap.size rb w2.heap.size cap (h.start :: h.wet) Ms W' ∧ J (pvs mb W.heap.size w1.heap.size rb w2.heap.size ++ Ms) (some (cnt h out k)) W' ∧ ob ∈ Ms ∧ W'.heap[ob]? = some (.cells (intCells ((allL h).getD k [])).toArray 3 (0, 0)) ∧
      (∀ m ∈ Ms, W'.heap[m]? = W1.heap[m]?) ∧ W1.heap.size ≤ W'.heap.size)
    ?hMp ?hassign ?hbody ?hdone ?hstop
  case hR =>
    intro r hr
    have hS := HSS.out
    rcases List.mem_cons.1 hr with rfl | hr
    · exact ⟨hS.start0, hS.start1, hS.start2⟩
    · have := hS.wet r hr; omega
  case hInv => rintro Ms k W' ⟨hp, _⟩; exact hp.box
  case hInvx => rintro c Ms W' ⟨_, hp, _⟩; exact hp.box
  case hI => rintro Ms Ms' k Wa Wb ⟨hp, hJ⟩ hE hMs _; exact ⟨hp.ext hE hMs, J_inner HI.out HST.out hp hJ hE hMs⟩
  case hIx => rintro c Ms Ms' Wa Wb ⟨hc, hp, hJ⟩ hE hMs _; exact ⟨hc, hp.ext hE hMs, J_inner HI.out HST.out hp hJ hE hMs⟩
  case hIp =>
    rintro Ms k W' r o ⟨hp, hJ⟩ hr
    exact ⟨hp.kept (by simp) (fun p hp' => World.putObj_heap_other (by simp at hp'; omega)) (fun m hm => .inl hm), J_put HI.out HST.out o (by simp; omega) (by omega) hJ⟩
  case hIxp =>
    rintro c Ms W' r o ⟨hc, hp, hJ⟩ hr
    exact ⟨hc, hp.kept (by simp) (fun p hp' => World.putObj_heap_other (by simp at hp'; omega)) (fun m hm => .inl hm), J_put HI.out HST.out o (by simp; omega) (by omega) hJ⟩
  case hMp =>
    rintro Ms k W1 a₁ W' o ⟨ob, ha, hp, hJ, hob, hcells, hk, hs⟩
    have hne : ∀ m ∈ Ms, m ≠ w2.heap.size + 1 := fun m hm e => hp.apart m hm (by simp; omega)
    exact ⟨ob, ha, hp.kept (by simp) (fun p hp' => World.putObj_heap_other (by simp at hp'; omega)) (fun m hm => .inl hm), J_put HI.out HST.out o (by simp) (by omega) hJ, hob,
      (World.putObj_heap_other (hne _ hob)).trans hcells, fun m hm => (World.putObj_heap_other (hne m hm)).trans (hk m hm), by simpa using hs⟩
  case hassign =>
    rintro Ms k v W' hk ⟨hp, hJ⟩ ⟨ob, rfl, hcells, hob⟩ hlt
    have hlen : ((prodL (h.start :: h.wet))[k]).length = h.wet.length + 1 := prodL_len _ _ (List.getElem_mem _)
    rw [hlen]
    gi_wp2
    refine ⟨⟨ob, rfl, hp, hJ, hob, ?_, fun m hm => trivial, Nat.le_refl _⟩, trivial, trivial⟩
    have hk' : k < (allL h).length := hk
    rw [show (allL h).getD k [] = (prodL (h.start :: h.wet))[k] from by rw [List.getD_eq_getElem?_getD, List.getElem?_eq_getElem hk']; rfl]
    exact hcells
  case hdone =>
    rintro Ms W' ⟨hp, hJ⟩ hD hlt
    gi_wp2
    refine ⟨by simp, .inl ⟨_, _, rfl, run_takeDeferred hD, ?_⟩⟩
    refine ⟨_, results_none rfl _ _ _, ⟨_, rfl⟩, pvs mb W.heap.size w1.heap.size rb w2.heap.size ++ Ms, .inl ?_⟩
    have := J_put HI.out HST.out (Obj.deferred none) (r := w2.heap.size) (by simp) (by omega) hJ
    rw [← cnt_all]
    exact this
  case hstop =>
    rintro c Ms W' ⟨rfl, hp, hJ⟩ hD hlt
    gi_wp2
    refine ⟨by simp, .inl ⟨_, _, rfl, run_takeDeferred hD, ?_⟩⟩
    refine ⟨_, results_none rfl _ _ _, ⟨_, rfl⟩, pvs mb W.heap.size w1.heap.size rb w2.heap.size ++ Ms, .inr ?_⟩
    exact J_put HI.out HST.out (Obj.deferred none) (r := w2.heap.size) (by simp) (by omega) hJ
  case hbody =>
    rintro Ms k W1 a₁ W' busy hk ⟨ob, rfl, hp, hJ, hob, hcells, hkeep, hsz⟩ hrec hD
    simp only [List.setIfInBounds_toArray, List.set_cons_succ, List.set_cons_zero]
    have hTI := HI.out _ _ _ hJ
    have hk' : k < (allL h).length := hk
    have hxm : (allL h).getD k [] ∈ allL h := by rw [List.getD_eq_getElem?_getD, List.getElem?_eq_getElem hk']; exact List.getElem_mem _
    have hxk : (allL h).getD k [] = (allL h)[k] := by rw [List.getD_eq_getElem?_getD, List.getElem?_eq_getElem hk']; rfl
    obtain ⟨s0, rest, hx, hrl, hs0, hrest⟩ := list_split HSS.out hxm
    rw [hx] at hcells
    have hcell0 := cell_of_ints hcells (k := 0) (by simp)
    simp only [List.getElem_cons_zero] at hcell0
    have hobs := World.block_lt_of_cell? W' _ hcell0
    have hslR : IntsAt W' (.slice (some ⟨ob, 1, none⟩) h.wet.length h.wet.length) rest := by
      refine ⟨by simp [intCells], _, _, by rw [hrl], Nat.le_refl _, by simp [maxLen]; omega, (fun h => by cases h), fun a ha => ?_⟩
      cases ha
      refine ⟨rfl, fun j u hj => ?_⟩
      simp only [World.cell?, hcells]
      rw [show (1 + j) = j + 1 from by omega]
      simpa [intCells] using hj
    have hn1 : 1 ≤ h.wet.length := by have := HSS.out.wetLen; have := HSS.out.last0; omega
    have hnI : (1 : Int) ≤ ((h.wet.length + 1 : Nat) : Int) := by omega
    have hne0 : ¬ h.wet.length = 0 := by omega
    have hwI : ((h.wet.length : Int) + 1).toNat = h.wet.length + 1 := by omega
    have HX : Hid ((allL h)[k] = s0 :: rest) := Lib.hid (by rw [← hxk]; exact hx)
    have HTI := Lib.hid hTI
    have HP := Lib.hid hp
    have HJb := Lib.hid hJ
    have HCL := Lib.hid hcells
    have HRC := Lib.hid (And.intro hrec hD)
    have HKP := Lib.hid hkeep
    have HSR := Lib.hid hslR
    have HRB := Lib.hid (And.intro hs0 hrest)
    have hslc := slice_rest ob h.wet.length hn1
    clear hTI hxm hxk hx hcells hp hJ hrec hD hkeep hslR hrest
    gi_wp2_with fail
    refine wpIn_region_rgR 7 [] none [(6, Spec.block W'.heap.size #[iv 0, .slice none 0 0] 71)] (by kernel_rfl) (by kernel_rfl) (by kernel_rfl) ?_
    simp only [List.take_succ_cons, List.take_zero, List.drop_succ_cons, List.drop_zero]
    repeat (refine tree_det (by rfl) _ (by rfl) (fun W hW => by go_simp; (try simp (disch := omega) only [IntWalk.i64_in, Int.tdiv_eq_ediv_of_nonneg]); try rfl) ?_; simp only [Act.put, List.setIfInBounds_toArray, List.set_cons_succ, List.set_cons_zero])
    refine tree_block W'.heap.size _ _ (by rfl) (Nat.le_refl _) (by rfl) (by simp) (by simp) (fun W hW => by go_simp; try rfl) (fun b5 => ?_)
    simp only [Act.put, List.setIfInBounds_toArray, List.set_cons_succ, List.set_cons_zero]
    intro W3 hE hF
    obtain ⟨b', hb, hbB, hblk⟩ := hF _ (List.Mem.head _)
    cases hb
    have hfr := frozen_of_block hblk
    have hb5 := (Array.getElem?_eq_some_iff.1 hblk).1
    have hg : ∀ i, W3.cell? ⟨b5, i, none⟩ = (#[iv 0, .slice none 0 0] : Array Value)[i]? := fun i => by
      simp only [World.cell?, hblk]; rfl
    have HE3 := Lib.hid hE.below
    have HB5 := Lib.hid hblk
    clear hblk hF hE hslc hcell0
    gi_wp2_with fail
    obtain ⟨W4, hW4⟩ : ∃ W4, (W3.setCell ⟨b5, 0, none⟩ (iv s0)).setCell ⟨b5, 1, none⟩ (.slice (some ⟨ob, 1, none⟩) h.wet.length h.wet.length) = W4 := ⟨_, rfl⟩
    rw [hW4]
    have hB4 : Below W'.heap.size W' W4 := by rw [← hW4]; exact bgoSet (bgoSet HE3.out hbB _) hbB _
    have hblk5 : W4.heap[b5]? = some (.cells #[iv s0, .slice (some ⟨ob, 1, none⟩) h.wet.length h.wet.length] 71 (0, 0)) := by rw [← hW4]; exact set_block (set_block HB5.out _) _
    have hT4 := HTI.out.below hB4
    have c1 := cell_of_block0 hT4.w
    have hb1 := World.block_lt_of_cell? W4 _ c1
    have c2 := hT4.work.cell
    have hb2 := hT4.work.lt
    have hb5' := (Array.getElem?_eq_some_iff.1 hblk5).1
    have hg5 : ∀ i, W4.cell? ⟨b5, i, none⟩ = (#[iv s0, .slice (some ⟨ob, 1, none⟩) h.wet.length h.wet.length] : Array Value)[i]? := fun i => by
      simp only [World.cell?, hblk5]; rfl
    have hn1' := not_mb hT4.work.cache hT4.w
    have hn2' := not_mb hT4.work.cache hT4.work.cells
    have hn5' := not_mb hT4.work.cache hblk5
    have hmb4 := hT4.work.cache.lt
    obtain ⟨ys, hy⟩ : ∃ ys, heats h (s0, rest) h.turns = ys := ⟨_, rfl⟩
    have hy10 : ys.length = 10 := by rw [← hy]; exact heatsTo_length _ _ _ _ _ _
    have HYY := Lib.hid hy
    have HT4 := Lib.hid hT4
    have HB4 := Lib.hid hB4
    have HK5 := Lib.hid hblk5
    clear hT4 hB4 hblk5 hW4 hy hfr hg hb5
    refine wpIn_region_rgR 9 [mb] (some 7) [(7, ⟨fun _ v => v = .agg (intCells ys).toArray, fun _ _ W => Cache W mb h.cool⟩), (8, Spec.block W4.heap.size #[iv 0, iv 0, iv 0, iv 0, iv 0, iv 0, iv 0, iv 0, iv 0, iv 0] 127)] (by kernel_rfl) (by kernel_rfl) (by kernel_rfl) ?_
    simp only [List.take_succ_cons, List.take_zero, List.drop_succ_cons, List.drop_zero]
    repeat (refine tree_det (by rfl) _ (by rfl) (fun W hW => by go_simp; (try simp (disch := omega) only [IntWalk.i64_in, Int.tdiv_eq_ediv_of_nonneg]); try rfl) ?_; simp only [Act.put, List.setIfInBounds_toArray, List.set_cons_succ, List.set_cons_zero])
    refine tree_some _ (by rfl) (by rfl) ⟨_, rfl⟩ (fun W5 hE hF => ?_) (fun v Wa Wb hc hE => ?_) (fun v hv => ?_)
    · have hE' : Ext [] W4 W5 := hE
      refine does_enter 80 #[.pointer (some ⟨wb, 0, none⟩), .agg #[iv s0, .slice (some ⟨ob, 1, none⟩) h.wet.length h.wet.length], .slice otn h.turns.length cb] (by go_simp; try rfl) ?_
      have hT5 := HT4.out.below hE'.below
      refine (play_any h _ _ _ wb mb s0 rest h.turns _ _ W5 hT5.work (HSR.out.below (bgo HB4.out hE'.below) (Nat.le_refl _)) hT5.turns (by omega) HSS.out.size0 HSS.out.size1 HSS.out.cool0 HSS.out.cool1 HRB.out.1.1 HRB.out.1.2 HRB.out.2).mono ?_
      rintro e W6 ⟨rfl, hcc, hE2⟩
      exact ⟨_, rfl, by rw [HYY.out], hcc, hE2⟩
    · have hE' : Ext [] Wa Wb := hE
      exact Cache.kept hc (hE'.block mb (Cache.lt hc) (by simp))
    obtain rfl : v = .agg (intCells ys).toArray := hv
    simp only [Act.put, List.setIfInBounds_toArray, List.set_cons_succ, List.set_cons_zero]
    refine tree_block W4.heap.size _ _ (by rfl) (Nat.le_refl _) (by rfl) (by simpa using hmb4) (by simp) (fun W hW => by go_simp; try rfl) (fun b6 => ?_)
    simp only [Act.put, List.setIfInBounds_toArray, List.set_cons_succ, List.set_cons_zero]
    intro W5 hE hF
    obtain ⟨b', hb, hbB6, hblk⟩ := hF _ (List.Mem.head _)
    cases hb
    have hcc : Cache W5 mb h.cool := hF _ (List.Mem.tail _ (List.Mem.head _))
    obtain ⟨W6, hst, hblk6, hE6⟩ := store_block Try.prog ys hblk (by rw [hy10]; rfl)
    have hyl : (intCells ys).length = 10 := by simp [intCells, hy10]
    have hmbb : mb < W4.heap.size := hmb4
    have hE6' : Ext [mb] W' W6 := ext_newer ((Ext.of_below HB4.out).trans hE) hE6 (by have := HB4.out.size; omega)
    have hcc6 : Cache W6 mb h.cool := hcc.kept (hE6.block mb (Cache.lt hcc) (by simp; omega))
    have hJ6 := J_table HI.out HST.out HJb.out hE6' hcc6
    have hT6 := HI.out _ _ _ hJ6
    have hP6 : Priv l mb W.heap.size w1.heap.size rb w2.heap.size cap (h.start :: h.wet) Ms W6 := HP.out.kept hE6'.size (fun p hp => hE6'.block p (HP.out.small p (by simp at hp ⊢; omega)) (by simp at hp ⊢; omega)) (fun m hm => .inl hm)
    have hblk5 := (hE6.block b5 (by have := hE.size; omega) (by simp; omega)).trans ((hE.block b5 hb5' (by simpa using hn5')).trans HK5.out)
    have c1 := cell_of_block0 hT6.w
    have c2 := hT6.work.cell
    have hs1 := World.block_lt_of_cell? W6 _ c1
    have hs2 := hT6.work.lt
    have HJ6 := Lib.hid hJ6
    have HT6 := Lib.hid hT6
    have HP6 := Lib.hid hP6
    have HK5 := Lib.hid hblk5
    have HE6 := Lib.hid hE6'
    have HK6 := Lib.hid hblk6
    clear hblk hF hE hcc hg5 hblk6 hE6 hE6' hcc6 hJ6 hT6 hP6 hblk5
    gi_wp2_with fail
    clear c1 c2
    have HY10 := Lib.hid hy10
    gi_loopw [7, 37] (fun r u wr => ∃ q : Nat, q ≤ h.readings.length ∧ u = .int .i64 q ∧ r = .bool ((List.range q).all (okAt h out (s0, rest))) ∧ Below W6.heap.size W6 wr)
      (fun _ u _ => h.readings.length - (intOf u).toNat)
    case atStart => exact ⟨0, Nat.zero_le _, rfl, rfl, Below.refl _ _⟩
    case round =>
      obtain ⟨q, hq, rfl, rfl, hBq⟩ := hrel
      have hTq := HT6.out.below hBq
      by_cases hlt : q < h.readings.length
      · obtain ⟨b', off', rfl, hb', e0, e1, e2⟩ := TriplesAt.cell hTq.readings hlt
        have hxr := HSS.out.rdg _ (List.getElem_mem hlt)
        have hok : okAt h out (s0, rest) q = (out.contains (q : Int) || rightR h.readings[q] ys) := by
          unfold okAt
          rw [HYY.out, show h.readings.getD q (0, 0, 0) = h.readings[q] from by simp [hlt]]
        have hsucc := range_all_succ q (okAt h out (s0, rest))
        rw [hok] at hsucc
        have hlast9 := HSS.out.last9
        have hr5 := HSS.out.rdgs
        have hbd6 : ∀ n ∈ ys, 0 ≤ n ∧ n ≤ 100000 := by
          rw [← HYY.out]
          intro n hn
          have := heats_bd (h := h) (t := (s0, rest)) h.turns HSS.out.size0 HSS.out.size1 HSS.out.cool0 HSS.out.cool1 HRB.out.1.1 HRB.out.1.2 HRB.out.2 (by simp; omega) n hn
          omega
        have hkk6 := (hBq.block b6 (Array.getElem?_eq_some_iff.1 HK6.out).1).trans HK6.out
        have d1 := cell_of_block0 hTq.o
        have hd1 := World.block_lt_of_cell? wr _ d1
        have hTout := hTq.out
        generalize h.readings[q] = x at e0 e1 e2 hxr hok hsucc
        generalize (List.range q).all (okAt h out (s0, rest)) = rq at hsucc
        obtain ⟨y0, y1, y2, y3, y4, y5, y6, y7, y8, y9, hys⟩ := ten_of HY10.out
        rw [hys] at hsucc hbd6 hkk6
        have hlb6 := (Array.getElem?_eq_some_iff.1 hkk6).1
        have hg6 : ∀ i, wr.cell? ⟨b6, i, none⟩ = (#[iv y0, iv y1, iv y2, iv y3, iv y4, iv y5, iv y6, iv y7, iv y8, iv y9] : Array Value)[i]? := fun i => by
          simp only [World.cell?, hkk6]; rfl
        have HSU := Lib.hid hsucc
        have HRT := Lib.hid (fun W => right_any x y0 y1 y2 y3 y4 y5 y6 y7 y8 y9 W hxr.1.1 (by omega) hxr.2.1.1 hxr.2.1.2 hxr.2.2.1 hxr.2.2.2 hbd6)
        have HBQ := Lib.hid hBq
        have HTQ := Lib.hid hTq
        have hqI : (q : Int) < h.readings.length := by omega
        generalize hrr : rightR x [y0, y1, y2, y3, y4, y5, y6, y7, y8, y9] = rr at HSU HRT
        have HCT := Lib.hid (fun (W : World) (hb : Below wr.heap.size wr W) => contains_any out (.slice oo out.length co) (q : Int) W (hTout.below hb (Nat.le_refl _)))
        generalize hcc : out.contains (q : Int) = cb at HSU HCT
        clear hsucc hok hrr hcc hTq hTout hBq hkk6 hys hbd6 hxr hyl hst
        cases rq
        · gi_wp2_with (refine skipR (by rfl) ?_; simp only [Act.put, List.setIfInBounds_toArray, List.set_cons_succ, List.set_cons_zero])
          go_roundw
          case rel => exact ⟨.bool false, _, _, .int .i64 ((q : Int) + 1), ⟨q + 1, by omega, by go_num, by rw [HSU.out]; rfl, bgoAlloc HBQ.out _⟩, rfl, rfl, rfl, rfl⟩
          case measure => simp [intOf]; omega
        · gi_wp2_with fail
          refine (CallsIn.inRound _ (callsIn_wide.2 (HCT.out _ (by repeat (first | exact Below.refl _ _ | assumption | refine bgo ?_ (by assumption) | refine bgoAlloc ?_ _ | refine bgoDrew ?_ | refine bgoSet ?_ (by simp; omega) _))))).mono ?_
          rintro e W7 ⟨rfl, hb7⟩
          obtain ⟨hc7, hf7⟩ := bcell hb7
          have HB7 := Lib.hid hb7
          have hz7 := hb7.size
          simp only [World.size_alloc] at hz7
          have hz8 : wr.heap.size < W7.heap.size := by omega
          clear hb7
          cases cb
          · gi_wp2_with fail
            refine (CallsIn.inRound _ (callsIn_wide.2 (HRT.out _))).mono ?_
            rintro e W8 ⟨rfl, hb8⟩
            have HB8 := Lib.hid hb8
            clear hb8
            gi_wp2_with fail
            go_roundw
            case rel => exact ⟨q + 1, by omega, by go_num, by rw [HSU.out]; rfl, bgo (bgo (bgoAlloc HBQ.out _) HB7.out) HB8.out⟩
            case measure => simp [intOf]; omega
          · gi_wp2_with fail
            go_roundw
            case rel => exact ⟨q + 1, by omega, by go_num, by rw [HSU.out]; rfl, bgo (bgoAlloc HBQ.out _) HB7.out⟩
            case measure => simp [intOf]; omega
      · have hql : q = h.readings.length := by omega
        have hokT : (List.range q).all (okAt h out (s0, rest)) = okT h out (toT (allL h)[k]) := by rw [HX.out, hql]; rfl
        rw [hokT]
        have hEr : Ext [mb] W' wr := HE6.out.trans (Ext.of_below hBq)
        have hJr := HST.out _ _ _ _ _ HJ6.out (Ext.of_below hBq) (fun m hm => .inl hm) hTq.work.cache
        have hPr : Priv l mb W.heap.size w1.heap.size rb w2.heap.size cap (h.start :: h.wet) Ms wr := HP6.out.kept hBq.size (fun p hp => hBq.block p (HP6.out.small p (by simp at hp ⊢; omega))) (fun m hm => .inl hm)
        have hrec := (hEr.block _ (Array.getElem?_eq_some_iff.1 HRC.out.1).1 (by simp; omega)).trans HRC.out.1
        have hdef := (hEr.block _ (Array.getElem?_eq_some_iff.1 HRC.out.2).1 (by simp; omega)).trans HRC.out.2
        have hkp : ∀ m ∈ Ms, m ∉ ([] : List Nat) → m < W1.heap.size → wr.heap[m]? = W1.heap[m]? := fun m hm _ hml =>
          (hEr.block m (by omega) (by have := HP.out.apart m hm; simp at this ⊢; omega)).trans (HKP.out m hm)
        have hszr : W1.heap.size ≤ wr.heap.size := by have := hEr.size; omega
        have HJR := Lib.hid hJr
        have HPR := Lib.hid hPr
        have HREC := Lib.hid (And.intro hrec (And.intro hdef (And.intro hkp hszr)))
        have HTQ := Lib.hid hTq
        have HBQ := Lib.hid hBq
        have HER := Lib.hid hEr
        cases hpv : okT h out (toT (allL h)[k])
        · have HPV := Lib.hid hpv
          clear hpv hokT hJr hPr hrec hdef hkp hTq hBq hEr hyl hst
          gi_wp2_with (refine skipR (by rfl) ?_; simp only [Act.put, List.setIfInBounds_toArray, List.set_cons_succ, List.set_cons_zero])
          exact ⟨HREC.out, HPR.out, by rw [cnt_no hk' HPV.out]; exact HJR.out⟩
        · obtain ⟨hcn, hcx⟩ := truthsL_at hk' hpv
          have hcy := cnt_yes hk' hpv
          have hslr : IntsAt wr (.slice (some ⟨ob, 1, none⟩) h.wet.length h.wet.length) rest := by
            refine HSR.out.kept fun b off n c hv hlt' => hEr.block b hlt' ?_
            cases hv
            have := HP.out.apart ob hob
            simp at this ⊢; omega
          have hobm : ob ≠ mb := by have := HP.out.apart ob hob; simp at this; omega
          obtain ⟨f1, t1, a1, bd1, hy1, hR1⟩ := HY.out (pvs mb W.heap.size w1.heap.size rb w2.heap.size ++ Ms) (cnt h out k) (.agg #[iv s0, .slice (some ⟨ob, 1, none⟩) h.wet.length h.wet.length]) wr hcn HJR.out
            (by rw [hcx, HX.out]; exact ⟨ob, by simp [toT, hrl], by simpa [toT, hrl] using hslr, List.mem_append_right _ hob, hobm⟩)
          have d0 := cell_of_block0 hPr.y
          have hd0 := World.block_lt_of_cell? wr _ d0
          have hk5r := (hBq.block b5 (Array.getElem?_eq_some_iff.1 HK5.out).1).trans HK5.out
          have hd5 := (Array.getElem?_eq_some_iff.1 hk5r).1
          have hg5r : ∀ i, wr.cell? ⟨b5, i, none⟩ = (#[iv s0, .slice (some ⟨ob, 1, none⟩) h.wet.length h.wet.length] : Array Value)[i]? := fun i => by
            simp only [World.cell?, hk5r]; rfl
          have HR1 := Lib.hid hR1
          have HCY := Lib.hid hcy
          have HREL := Lib.hid (And.intro (Array.getElem?_eq_some_iff.1 hrec).1 (Array.getElem?_eq_some_iff.1 hdef).1)
          clear hpv hokT hJr hPr hrec hdef hkp hTq hBq hEr hyl hst hslr hcx hk5r hR1 hcy
          gi_wp2_with fail
          refine HR1.out.mono ?_
          rintro e W8 ⟨⟨hkeep, hsz8⟩, ⟨rfl, hJ8⟩ | ⟨rfl, hJ8⟩⟩
          all_goals
            have HJ8 := Lib.hid hJ8
            have hP8 : Priv l mb W.heap.size w1.heap.size rb w2.heap.size cap (h.start :: h.wet) Ms W8 := HPR.out.kept hsz8 (fun p hp => hkeep p (List.mem_append_left _ (by simp at hp ⊢; omega)) (by simp at hp ⊢; omega) (HPR.out.small p (by simp at hp ⊢; omega))) (fun m hm => .inl hm)
            have hq8 : W8.heap[w2.heap.size + 1]? = some (.loop busy) ∧ W8.heap[w2.heap.size]? = some (.deferred (some [])) ∧ (∀ m ∈ Ms, m ∉ ([] : List Nat) → m < W1.heap.size → W8.heap[m]? = W1.heap[m]?) ∧ W1.heap.size ≤ W8.heap.size :=
              ⟨(hkeep _ (by simp) (by simp; omega) HREL.out.1).trans HREC.out.1, (hkeep _ (by simp) (by simp; omega) HREL.out.2).trans HREC.out.2.1,
                fun m hm h0 hml => (hkeep m (List.mem_append_right _ hm) (by have := HP.out.apart m hm; simp at this ⊢; omega) (by omega)).trans (HREC.out.2.2.1 m hm h0 hml), by omega⟩
            have HP8 := Lib.hid hP8
            have HQ8 := Lib.hid hq8
            clear hJ8 hP8 hq8 hkeep hy1
          · gi_wp2_with fail
            exact ⟨HQ8.out, HP8.out, by rw [HCY.out]; exact HJ8.out⟩
          · gi_wp2_with fail
            exact ⟨HQ8.out, rfl, HP8.out, HJ8.out⟩

end Go.Proofs.Ytoibfafmnaooaaa

namespace Go.Proofs.Ytoibfafmnaooaaa
open Go.RowKit Go.RG Go.SL Go.Shelf Cou
set_option maxHeartbeats 400000
set_option maxRecDepth 10000
attribute [local go_sem] Oper.semAt_some

/-- truths RETURNS ITS ITERATOR: the heap at work and the readings left out are boxed. -/
theorem truths_any (wb : Nat) (o : Option Addr) (n c : Nat) (w : World) :
    Calls Try.prog 90 #[.pointer (some ⟨wb, 0, none⟩), .slice o n c] w (fun e w' => e = .returned (.func (.func 116) #[] #[.pointer (some ⟨w.heap.size, 0, none⟩), .pointer (some ⟨w.heap.size + 1, 0, none⟩)]) ∧
      w' = (w.alloc (.cells #[.pointer (some ⟨wb, 0, none⟩)] 106)).alloc (.cells #[.slice o n c] 25)) := by
  go_enter Try.func90, Try.ntmps90
  go_wp2
  go_returns
  exact ⟨by simp, rfl⟩

/-- A caller's frame: since w nothing old has turned but the table mb; the caller's own blocks Os lie apart from the iterator's blocks Ms. -/
structure Fr (w : World) (mb : Nat) (cool : Int) (Os Ms : List Nat) (W : World) : Prop where
  ext : Ext [mb] w W
  old : ∀ m ∈ Ms, m = mb ∨ w.heap.size ≤ m
  bnd : ∀ m ∈ Ms, m < W.heap.size
  apart : ∀ b ∈ Os, b ∉ Ms ∧ b < W.heap.size
  cache : Cache W mb cool

theorem Fr.step {w : World} {mb : Nat} {cool : Int} {Os Ms Ms' : List Nat} {W1 W2 : World} (h : Fr w mb cool Os Ms W1) (hE : Ext Ms W1 W2) (hMs : ∀ m ∈ Ms', m ∈ Ms ∨ (W1.heap.size ≤ m ∧ m < W2.heap.size)) (hc : Cache W2 mb cool) :
    Fr w mb cool Os Ms' W2 ∧ ∀ b ∈ Os, W2.heap[b]? = W1.heap[b]? := by
  refine ⟨⟨⟨hE.os.trans h.ext.os, hE.tape.trans h.ext.tape, hE.output.trans h.ext.output, Nat.le_trans h.ext.size hE.size, fun k hk hm => ?_⟩, fun m hm => ?_, fun m hm => ?_, fun b hb => ?_, hc⟩, fun b hb => hE.block b (h.apart b hb).2 (h.apart b hb).1⟩
  · refine (hE.block k (Nat.lt_of_lt_of_le hk h.ext.size) (fun hk' => ?_)).trans (h.ext.block k hk hm)
    rcases h.old k hk' with h1 | h1
    · exact hm (by simp [h1])
    · omega
  · rcases hMs m hm with h1 | h1
    · exact h.old m h1
    · exact .inr (Nat.le_trans h.ext.size h1.1)
  · rcases hMs m hm with h1 | h1
    · exact Nat.lt_of_lt_of_le (h.bnd m h1) hE.size
    · exact h1.2
  · refine ⟨fun hb' => ?_, Nat.lt_of_lt_of_le (h.apart b hb).2 hE.size⟩
    rcases hMs b hb' with h1 | h1
    · exact (h.apart b hb).1 h1
    · have := (h.apart b hb).2; omega

/-- The caller's own step: it turns new blocks of its own, and the table. -/
theorem Fr.own {w : World} {mb : Nat} {cool : Int} {Os Ms : List Nat} {W1 W2 : World} (h : Fr w mb cool Os Ms W1) (hE : Ext [mb] w W2) (hs : W1.heap.size ≤ W2.heap.size) (hc : Cache W2 mb cool) : Fr w mb cool Os Ms W2 :=
  ⟨hE, h.old, fun m hm => Nat.lt_of_lt_of_le (h.bnd m hm) hs, fun b hb => ⟨(h.apart b hb).1, Nat.lt_of_lt_of_le (h.apart b hb).2 hs⟩, hc⟩

/-- What the iterator asks, from what lay in w, and from the two boxes. -/
theorem Fr.tinv {w : World} {wb mb bw bo : Nat} {h : HeapD} {a b c ov : Value} {out : List Int} {Os Ms : List Nat} {W : World} (hF : Fr w mb h.cool Os Ms W)
    (hw : WorkAt w wb mb h a b c) (h1 : PairsAt w a h.wet) (h2 : IntsAt w b h.turns) (h3 : TriplesAt w c h.readings) (h4 : IntsAt w ov out)
    (hb1 : W.heap[bw]? = some (.cells #[.pointer (some ⟨wb, 0, none⟩)] 106 (0, 0))) (hb2 : W.heap[bo]? = some (.cells #[ov] 25 (0, 0))) : TInv wb mb bw bo h a b c ov out W := by
  have hm : ∀ x ∈ [mb], ∀ o, w.cell? ⟨x, o, none⟩ = none := fun x hx o => by
    have : x = mb := by simpa using hx
    subst this
    exact hw.cache.noCell o
  exact ⟨hb1, hb2, hw.ext hF.ext hF.cache, h1.ext_other hF.ext hm, h2.ext_other hF.ext hm, h3.ext_other hF.ext hm, h4.ext_other hF.ext hm⟩

theorem Fr.put {w : World} {mb : Nat} {cool : Int} {Os Ms : List Nat} {W : World} (h : Fr w mb cool Os Ms W) {r : Nat} (o : Obj) (hr : w.heap.size ≤ r) (hm : mb < w.heap.size) : Fr w mb cool Os Ms (W.putObj r o) :=
  h.own ⟨h.ext.os, h.ext.tape, h.ext.output, by simpa using h.ext.size, fun k hk hn => (World.putObj_heap_other (by omega)).trans (h.ext.block k hk hn)⟩ (by simp) (h.cache.kept (World.putObj_heap_other (by omega)))

/-- possible's own blocks: the result, the two boxes. -/
structure Pos (w : World) (wb : Nat) (ov : Value) (r : Bool) (W : World) : Prop where
  res : W.heap[w.heap.size]? = some (.cells #[.bool r] 4 (0, 0))
  b1 : W.heap[w.heap.size + 1]? = some (.cells #[.pointer (some ⟨wb, 0, none⟩)] 106 (0, 0))
  b2 : W.heap[w.heap.size + 1 + 1]? = some (.cells #[ov] 25 (0, 0))

theorem Pos.kept {w : World} {wb : Nat} {ov : Value} {r : Bool} {W W' : World} (h : Pos w wb ov r W) (hk : ∀ b ∈ [w.heap.size, w.heap.size + 1, w.heap.size + 1 + 1], W'.heap[b]? = W.heap[b]?) : Pos w wb ov r W' :=
  ⟨(hk _ (by simp)).trans h.res, (hk _ (by simp)).trans h.b1, (hk _ (by simp)).trans h.b2⟩

set_option maxHeartbeats 2000000 in
theorem possible_any (h : HeapD) (hS : Sound h) (a b c ov : Value) (out : List Int) (wb mb : Nat) (w : World) (hw : WorkAt w wb mb h a b c) (h1 : PairsAt w a h.wet) (h2 : IntsAt w b h.turns) (h3 : TriplesAt w c h.readings) (h4 : IntsAt w ov out) :
    Calls Try.prog 72 #[.pointer (some ⟨wb, 0, none⟩), ov] w (fun e w' => e = .returned (.bool (!(truthsL h out).isEmpty)) ∧ Cache w' mb h.cool ∧ Ext [mb] w w') := by
  obtain ⟨oo, co, rfl⟩ := h4.open
  have HW := Lib.hid hw
  have H1 := Lib.hid h1
  have H2 := Lib.hid h2
  have H3 := Lib.hid h3
  have H4 := Lib.hid h4
  have HSS := Lib.hid hS
  have hmb := hw.cache.lt
  clear hw h1 h2 h3 h4 hS
  refine (callsIn_wide (n := 0)).1 ?_
  refine callsIn_of_wp_marks Try.func72 rfl trivial ?_
  simp only [Try.ntmps72, List.size_toArray, List.length_cons, List.length_nil, Nat.reduceAdd, Nat.reduceSub, Array.replicate_succ, Array.replicate_zero, List.push_toArray, List.append_toArray, List.nil_append, List.cons_append]
  gi_wp2_with fail
  refine (callsIn_wide.2 (truths_any wb _ _ _ _)).mono ?_
  rintro e w1 ⟨rfl, rfl⟩
  gi_wp2_with fail
  obtain ⟨w2, hw2⟩ : ∃ w2, (((w.alloc (.cells #[.bool false] 4)).alloc (.cells #[.pointer (some ⟨wb, 0, none⟩)] 106)).alloc (.cells #[.slice oo out.length co] 25)) = w2 := ⟨_, rfl⟩
  have hB2 : Below w.heap.size w w2 := by rw [← hw2]; exact (by repeat (first | exact Below.refl _ _ | assumption | refine bgo ?_ (by assumption) | refine bgoAlloc ?_ _ | refine bgoDrew ?_ | refine bgoSet ?_ (by simp; omega) _))
  have hsz2 : w2.heap.size = w.heap.size + 3 := by rw [← hw2]; simp
  have hP2 : Pos w wb (.slice oo out.length co) false w2 := by
    rw [← hw2]
    exact ⟨(Below.heap_alloc _ _ _ (by simp; omega)).trans ((Below.heap_alloc _ _ _ (by simp)).trans (heap_new0 _ _)), (Below.heap_alloc _ _ _ (by simp)).trans (heap_new1 _ _ _), heap_new2 _ _ _ _⟩
  rw [hw2]
  clear hw2
  refine wpIn_rangeC (truths_seq h HSS.out a b c (.slice oo out.length co) out wb mb (w.heap.size + 1) (w.heap.size + 1 + 1)) rfl (enters_of Try.func116 (by kernel_rfl) rfl) rfl (by simp; omega)
    (fun Ms k W => k = 0 ∧ Fr w mb h.cool [w.heap.size, w.heap.size + 1, w.heap.size + 1 + 1, w2.heap.size, w2.heap.size + 1] Ms W ∧ Pos w wb (.slice oo out.length co) false W)
    (fun cd Ms W => (cd = .ret ∧ (truthsL h out).isEmpty = false) ∧ Fr w mb h.cool [w.heap.size, w.heap.size + 1, w.heap.size + 1 + 1, w2.heap.size, w2.heap.size + 1] Ms W ∧ Pos w wb (.slice oo out.length co) true W)
    ?hInv ?hInvx ?hI ?hIx ?hIp ?hIxp ?h0
    (fun a Ms k W1 a₁ W => ∃ v, a₁ = { tmps := a.tmps.setIfInBounds 8 v, defers := [] } ∧ (Fr w mb h.cool [w.heap.size, w.heap.size + 1, w.heap.size + 1 + 1, w2.heap.size, w2.heap.size + 1] Ms W ∧ Pos w wb (.slice oo out.length co) false W) ∧ (∀ m ∈ Ms, m ∉ [mb] → W.heap[m]? = W1.heap[m]?) ∧ W1.heap.size ≤ W.heap.size)
    ?hMp ?hassign ?hbody ?hdone ?hstop
  case hInv => rintro Ms k W ⟨_, hF, hP⟩; exact hF.tinv HW.out H1.out H2.out H3.out H4.out hP.b1 hP.b2
  case hInvx => rintro cd Ms W ⟨_, hF, hP⟩; exact hF.tinv HW.out H1.out H2.out H3.out H4.out hP.b1 hP.b2
  case hI => rintro Ms Ms' k Wa Wb ⟨h0, hF, hP⟩ hE hMs hc; exact ⟨h0, (hF.step hE hMs hc).1, hP.kept (fun b hb => (hF.step hE hMs hc).2 b (by simp at hb ⊢; omega))⟩
  case hIx => rintro cd Ms Ms' Wa Wb ⟨h0, hF, hP⟩ hE hMs hc; exact ⟨h0, (hF.step hE hMs hc).1, hP.kept (fun b hb => (hF.step hE hMs hc).2 b (by simp at hb ⊢; omega))⟩
  case hIp => rintro Ms k W r o ⟨h0, hF, hP⟩ hr; exact ⟨h0, hF.put o (by omega) hmb, hP.kept (fun b hb => World.putObj_heap_other (by simp at hb; omega))⟩
  case hIxp => rintro cd Ms W r o ⟨h0, hF, hP⟩ hr; exact ⟨h0, hF.put o (by omega) hmb, hP.kept (fun b hb => World.putObj_heap_other (by simp at hb; omega))⟩
  case h0 =>
    intro o o'
    have hB : Below w.heap.size w ((w2.alloc o).alloc o') := bgoAlloc (bgoAlloc hB2 _) _
    exact ⟨rfl, ⟨Ext.of_below hB, fun m hm => .inl (by simpa using hm), fun m hm => (by have := hB.size; simp at hm; omega), fun b hb => ⟨by simp at hb ⊢; omega, by simp at hb ⊢; omega⟩, HW.out.cache.kept (hB.block mb hmb)⟩,
      hP2.kept (fun b hb => (Below.heap_alloc _ _ _ (by simp at hb ⊢; omega)).trans (Below.heap_alloc _ _ _ (by simp at hb; omega)))⟩
  case hMp =>
    rintro Ms k W1 a₁ W o ⟨v, ha, ⟨hF, hP⟩, hk, hs⟩
    refine ⟨v, ha, ⟨hF.put o (by omega) hmb, hP.kept (fun b hb => World.putObj_heap_other (by simp at hb; omega))⟩, fun m hm h0 => ?_, by simpa using hs⟩
    exact (World.putObj_heap_other (fun e : m = w2.heap.size + 1 => (hF.apart (w2.heap.size + 1) (by simp)).1 (by rw [← e]; exact hm))).trans (hk m hm h0)
  case hassign =>
    rintro Ms k v W hk ⟨h0, hF, hP⟩ hE hlt
    gi_wp2
    exact ⟨⟨v, by simp, ⟨hF, hP⟩, fun _ _ _ => trivial, Nat.le_refl _⟩, trivial, trivial⟩
  case hbody =>
    rintro Ms k W1 a₁ W busy hk ⟨v, rfl, ⟨hF, hP⟩, hkeep, hsz⟩ hrec hD
    have hne : (truthsL h out).isEmpty = false := by
      cases hl : truthsL h out with
      | nil => rw [hl] at hk; simp at hk
      | cons x l => rfl
    have hc := cell_of_block0 hP.res
    have hf := frozen_of_block hP.res 0
    have HF := Lib.hid hF
    have HP := Lib.hid hP
    have HQ := Lib.hid (And.intro hrec (And.intro hD (And.intro hkeep hsz)))
    clear hF hP hrec hD hkeep
    simp only [List.setIfInBounds_toArray, List.set_cons_succ, List.set_cons_zero]
    gi_wp2_with fail
    refine ⟨⟨(Below.heap_setCell _ _ _ _ (by show w2.heap.size + 1 ≠ w.heap.size; omega)).trans HQ.out.1, (Below.heap_setCell _ _ _ _ (by show w2.heap.size ≠ w.heap.size; omega)).trans HQ.out.2.1, fun m hm h0 _ => ?_, by simpa [World.setCell] using hsz⟩,
      ⟨rfl, hne⟩, HF.out.own (HF.out.ext.set (Nat.le_refl _) _) (by simp [World.setCell]) (HF.out.cache.kept (Below.heap_setCell _ _ _ _ (by show mb ≠ w.heap.size; omega))),
      ⟨set_block HP.out.res _, (Below.heap_setCell _ _ _ _ (by show w.heap.size + 1 ≠ w.heap.size; omega)).trans HP.out.b1, (Below.heap_setCell _ _ _ _ (by show w.heap.size + 1 + 1 ≠ w.heap.size; omega)).trans HP.out.b2⟩⟩
    exact (Below.heap_setCell _ _ _ _ (fun e : m = w.heap.size => (HF.out.apart w.heap.size (by simp)).1 (by rw [← e]; exact hm))).trans (HQ.out.2.2.1 m hm h0)
  case hdone =>
    rintro Ms W ⟨h0, hF, hP⟩ hD hlt
    have hem : (truthsL h out).isEmpty = true := by
      cases hl : truthsL h out with
      | nil => rfl
      | cons x l => rw [hl] at h0; simp at h0
    rw [hem]
    have hc := cell_of_block0 hP.res
    have hf := frozen_of_block hP.res 0
    have HF := Lib.hid hF
    have HP := Lib.hid hP
    clear hF hP
    gi_wp2_with fail
    rw [hsz2] at hD
    have hD' : (W.setCell ⟨w.heap.size, 0, none⟩ (.bool false)).heap[w.heap.size + 3]? = some (.deferred (some [])) := (Below.heap_setCell _ _ _ _ (by show w.heap.size + 3 ≠ w.heap.size; omega)).trans hD
    have hcell : ((W.setCell ⟨w.heap.size, 0, none⟩ (.bool false)).putObj (w.heap.size + 3) (.deferred none)).cell? ⟨w.heap.size, 0, none⟩ = some (.bool false) :=
      cell_of_block0 ((World.putObj_heap_other (by omega)).trans (set_block HP.out.res _))
    refine ⟨by simp, .inl ⟨_, _, rfl, run_takeDeferred hD', ?_⟩⟩
    refine ⟨.bool false, by simp [results, Try.results72, go_sem, hcell], by rw [hem]; rfl, ?_, ?_⟩
    · exact HF.out.cache.kept ((World.putObj_heap_other (by omega)).trans (Below.heap_setCell _ _ _ _ (by show mb ≠ w.heap.size; omega)))
    · have := (HF.out.own (HF.out.ext.set (p := ⟨w.heap.size, 0, none⟩) (Nat.le_refl _) (.bool false)) (by simp [World.setCell]) (HF.out.cache.kept (Below.heap_setCell _ _ _ _ (by show mb ≠ w.heap.size; omega)))).put (Obj.deferred none) (r := w.heap.size + 3) (by omega) hmb
      exact this.ext
  case hstop =>
    rintro cd Ms W ⟨⟨rfl, hne⟩, hF, hP⟩ hD hlt
    have HF := Lib.hid hF
    have HP := Lib.hid hP
    clear hF hP
    gi_wp2_with fail
    have hcell : (W.putObj (w2.heap.size) (.deferred none)).cell? ⟨w.heap.size, 0, none⟩ = some (.bool true) :=
      cell_of_block0 ((World.putObj_heap_other (by omega)).trans HP.out.res)
    refine ⟨by simp, .inl ⟨_, _, rfl, run_takeDeferred hD, ?_⟩⟩
    refine ⟨.bool true, by simp [results, Try.results72, go_sem, hcell], by rw [hne]; rfl, ?_, ?_⟩
    · exact HF.out.cache.kept (World.putObj_heap_other (by omega))
    · exact (HF.out.put (Obj.deferred none) (r := w2.heap.size) (by omega) hmb).ext

end Go.Proofs.Ytoibfafmnaooaaa

namespace Go.Proofs.Ytoibfafmnaooaaa
open Go.RowKit Go.RG Go.SL Go.Shelf Cou
set_option maxHeartbeats 400000
set_option maxRecDepth 10000

def askErr (h : HeapD) (turns : List Int) : Int := if fault h ≠ 0 then fault h else if isTurns h.last turns = false then 2 else if (truthsL h []).isEmpty then 11 else 0

/-- What asked returns. -/
def AskPost (h : HeapD) (a b c : Value) (turns : List Int) (w : World) (e : Ending) (w' : World) : Prop :=
  Below w.heap.size w w' ∧ ((askErr h turns ≠ 0 ∧ e = .returned (.tuple #[.pointer none, .int .i64 (askErr h turns)])) ∨
    (askErr h turns = 0 ∧ ∃ wb mb : Nat, e = .returned (.tuple #[.pointer (some ⟨wb, 0, none⟩), .int .i64 0]) ∧ w.heap.size ≤ wb ∧ w.heap.size ≤ mb ∧ WorkAt w' wb mb h a b c))

theorem below_of_ext {w W W' : World} {mb : Nat} (h : Below w.heap.size w W) (hE : Ext [mb] W W') (hm : w.heap.size ≤ mb) : Below w.heap.size w W' :=
  h.trans ⟨hE.os, hE.tape, hE.output, hE.size, fun k hk => by
    by_cases hlt : k < W.heap.size
    · exact hE.block k hlt (by simp; omega)
    · have := h.size; omega⟩

theorem asked_any (h : HeapD) (wv tv xv' trv : Value) (turns : List Int) (w : World) (hw : PairsAt w wv h.wet) (ht : IntsAt w tv h.turns) (hx : TriplesAt w xv' h.readings) (htr : IntsAt w trv turns) :
    Calls Try.prog 65 #[hv h wv tv xv', trv] w (AskPost h wv tv xv' turns w) := by
  obtain ⟨ow, cw, rfl⟩ := hw.open
  obtain ⟨ot, ct, rfl⟩ := ht.open
  obtain ⟨ox, cx, rfl⟩ := hx.open
  have HW := Lib.hid hw
  have HT := Lib.hid ht
  have HX := Lib.hid hx
  clear hw ht hx
  obtain ⟨oq, cq, rfl⟩ := htr.open
  have HQ := Lib.hid htr
  clear htr
  by_cases hf0 : fault h = 0
  case neg =>
    have he : askErr h turns = fault h := by unfold askErr; rw [if_pos hf0]
    have HE : Hid (askErr h turns = fault h ∧ askErr h turns ≠ 0) := Lib.hid ⟨he, by rw [he]; exact hf0⟩
    clear he
    generalize hff : fault h = f at *
    have HF := Lib.hid hff
    clear hff
    go_enter Try.func65, Try.ntmps65
    go_wp2_with fail
    refine (check_any h _ _ _ _ (HW.out.alloc _) (HT.out.alloc _) (HX.out.alloc _)).mono ?_
    rintro e w' ⟨rfl, hb⟩
    rw [HF.out]
    go_wp2_with fail
    go_returns
    exact ⟨bgo (bgoAlloc (Below.refl _ _) _) hb, .inl ⟨HE.out.2, by rw [HE.out.1]; simp⟩⟩
  have hS := sound_of hf0
  obtain ⟨hl0, hl9⟩ : 0 ≤ h.last ∧ h.last ≤ 9 := ⟨hS.last0, hS.last9⟩
  have HF := Lib.hid hf0
  have HSS := Lib.hid hS
  clear hf0 hS
  have hask : askErr h turns = if isTurns h.last turns = false then 2 else if (truthsL h []).isEmpty then 11 else 0 := by unfold askErr; rw [if_neg (by rw [HF.out]; simp)]
  have HASK := Lib.hid hask
  clear hask
  generalize htn : isTurns h.last turns = tn at HASK
  have HTN := Lib.hid htn
  clear htn
  go_enter Try.func65, Try.ntmps65
  go_wp2_with fail
  refine (check_any h _ _ _ _ (HW.out.alloc _) (HT.out.alloc _) (HX.out.alloc _)).mono ?_
  rintro e w' ⟨rfl, hb⟩
  rw [HF.out]
  obtain ⟨hc, hf⟩ := bcell hb
  have hz0 : w.heap.size < w'.heap.size := (by have := hb.size; (try simp only [World.size_alloc] at this); omega)
  have HB := Lib.hid (show Below w.heap.size w w' from bgo (bgoAlloc (Below.refl _ _) _) hb)
  clear hb
  go_wp2_with fail
  refine (turnings_any h _ _ _ _ turns _ (HQ.out.below HB.out (Nat.le_refl _)) hl0 hl9).mono ?_
  rintro e w3 ⟨rfl, hb⟩
  rw [HTN.out]
  have HB3 := Lib.hid (bgo HB.out hb)
  obtain ⟨hc3, hf3⟩ := bcell hb
  clear hb
  cases tn
  · go_wp2_with fail
    go_returns
    exact ⟨HB3.out, .inl ⟨by rw [HASK.out]; simp, by rw [HASK.out]; simp⟩⟩
  go_wp2_with fail
  refine (work_any h ow ot ox _ _ _ _ _ _ w3).mono ?_
  rintro e w4 ⟨wb, mb, rfl, h1, h2, h3, h4⟩
  have hsz := HB3.out.size
  have HW4 := Lib.hid h3
  have HB4 := Lib.hid (bgo HB3.out h4)
  clear h3 h4 hc hf hc3 hf3
  go_wp2_with fail
  refine (possible_any h HSS.out _ _ _ (.slice none 0 0) [] wb mb w4 HW4.out (HW.out.below HB4.out (Nat.le_refl _)) (HT.out.below HB4.out (Nat.le_refl _)) (HX.out.below HB4.out (Nat.le_refl _)) (SlAt.nil 1 w4)).mono ?_
  rintro e w5 ⟨rfl, hcc, hE⟩
  have HB5 := Lib.hid (below_of_ext HB4.out hE (by omega))
  have HW5 := Lib.hid (HW4.out.ext hE hcc)
  clear hcc hE
  generalize htl : (truthsL h []).isEmpty = em at HASK
  cases em
  · go_wp2_with fail
    go_returns
    exact ⟨HB5.out, .inr ⟨by rw [HASK.out]; simp, wb, mb, by simp, by omega, by omega, HW5.out⟩⟩
  · go_wp2_with fail
    go_returns
    exact ⟨HB5.out, .inl ⟨by rw [HASK.out]; simp, by rw [HASK.out]; simp⟩⟩

end Go.Proofs.Ytoibfafmnaooaaa

namespace Go.Proofs.Ytoibfafmnaooaaa
open Go.RowKit Go.RG Go.SL Go.Shelf Cou
set_option maxHeartbeats 400000
set_option maxRecDepth 10000

theorem allI_pure (l : List Int) (v : Value) (fid : Nat) (fst caps : Array Value) (q : Int → Bool) (w : World) (hv : IntsAt w v l) (eg : ∀ args w, (callFunc fid args).run Try.prog w = .ok (.enter fid args) w)
    (hcall : ∀ x ∈ l, ∀ W, Below w.heap.size w W → Calls Try.prog fid (fst.push (iv x) ++ caps) W (PV (.bool (q x)) W)) :
    Calls Try.prog 108 #[v, .func (.func fid) fst caps] w (PV (.bool (l.all q)) w) := by
  refine (allI l v fid fst caps (fun k => q (l.getD k 0)) (fun _ W => Below w.heap.size w W) w eg (fun k W h => hv.below h (Nat.le_refl _)) (fun k W o h => bgoAlloc h o) (fun k hk W _ h => ?_) (Below.refl _ _)).mono ?_
  · refine (hcall l[k] (List.getElem_mem _) W h).mono ?_
    rintro e W' ⟨rfl, hb⟩
    exact ⟨by simp [hk], bgo h hb, FromOn.of_below hb⟩
  · intro e W' hpost
    obtain ⟨rfl, k, _, hI⟩ := hpost.all
    refine ⟨?_, hI⟩
    rw [all_of_any, range_all]

def lostB (h : HeapD) (n : Int) : Bool := decide (h.burn < n) || decide (n < h.die)
def keptL (h : HeapD) (l : List Int) : Bool := (l.take (h.last + 1).toNat).all fun n => !lostB h n

theorem kept1_any (h : HeapD) (a b c : Value) (n : Int) (bh : Nat) (w : World) (hb : w.heap[bh]? = some (.cells #[.int .i64 h.last, .int .i64 h.size, .int .i64 h.cool, .int .i64 h.die, .int .i64 h.burn, .int .i64 h.start.1, .int .i64 h.start.2, a, b, c] 40 (0, 0))) :
    Calls Try.prog 114 #[iv n, .pointer (some ⟨bh, 0, none⟩)] w (PV (.bool (!lostB h n)) w) := by
  have hc0 : ∀ i, w.cell? ⟨bh, i, none⟩ = (#[.int .i64 h.last, .int .i64 h.size, .int .i64 h.cool, .int .i64 h.die, .int .i64 h.burn, .int .i64 h.start.1, .int .i64 h.start.2, a, b, c] : Array Value)[i]? := fun i => by
    simp only [World.cell?, hb]; rfl
  have hlt := (Array.getElem?_eq_some_iff.1 hb).1
  clear hb
  go_enter Try.func114, Try.ntmps114
  go_wp2_with fail
  refine (lost_any h a b c n w).mono ?_
  rintro e w' ⟨rfl, hb⟩
  have HB := Lib.hid hb
  clear hb
  generalize hl : (decide (h.burn < n) || decide (n < h.die)) = q
  have HL : Hid (lostB h n = q) := Lib.hid hl
  clear hl
  go_wp2_with fail
  go_returns
  exact ⟨by rw [HL.out]; simp, HB.out⟩

theorem kept_any (h : HeapD) (ow ot ox : Option Addr) (nw cw nt ct nx cx : Nat) (l : List Int) (h10 : l.length = 10) (w : World) (h0 : 0 ≤ h.last) (h9 : h.last ≤ 9) :
    Calls Try.prog 85 #[hv h (.slice ow nw cw) (.slice ot nt ct) (.slice ox nx cx), aggI l] w (PV (.bool (keptL h l)) w) := by
  obtain ⟨n, hn⟩ : ∃ n : Nat, h.last + 1 = n := ⟨(h.last + 1).toNat, by omega⟩
  have hn10 : n ≤ 10 := by omega
  have hk : keptL h l = (l.take n).all fun n => !lostB h n := by unfold keptL; rw [hn]; rfl
  rw [hk]
  clear hk
  obtain ⟨y0, y1, y2, y3, y4, y5, y6, y7, y8, y9, rfl⟩ := ten_of h10
  have hnI : (n : Int) ≤ 10 := by omega
  have hnI0 : (0 : Int) ≤ n := by omega
  have hl10 : ([y0, y1, y2, y3, y4, y5, y6, y7, y8, y9].take n).length = n := by simp; omega
  show Calls Try.prog 85 #[hv h (.slice ow nw cw) (.slice ot nt ct) (.slice ox nx cx), .agg #[iv y0, iv y1, iv y2, iv y3, iv y4, iv y5, iv y6, iv y7, iv y8, iv y9]] w _
  go_enter Try.func85, Try.ntmps85
  go_wp2_with fail
  refine (hours_n h _ _ _ n _ h0 h9 hn).mono ?_
  rintro e w' ⟨rfl, hb⟩
  obtain ⟨hc, hf⟩ := bcell hb
  have hz0 : w.heap.size < w'.heap.size := (by have := hb.size; (try simp only [World.size_alloc] at this); omega)
  have hz1 : w.heap.size + 1 < w'.heap.size := (by have := hb.size; (try simp only [World.size_alloc] at this); omega)
  have HA := Lib.hid ((hb.block w.heap.size (by simp; omega)).trans ((Below.heap_alloc _ _ _ (by simp)).trans (heap_new0 _ _)))
  have HK := Lib.hid ((hb.block (w.heap.size + 1) (by simp)).trans (heap_new1 _ _ _))
  have HB := Lib.hid (show Below w.heap.size w w' from (by repeat (first | exact Below.refl _ _ | assumption | refine bgo ?_ (by assumption) | refine bgoAlloc ?_ _ | refine bgoDrew ?_ | refine bgoSet ?_ (by simp; omega) _)))
  clear hb
  go_wp2_with fail
  have hsl : IntsAt w' (.slice (some ⟨w.heap.size + 1, 0, none⟩) n 10) ([y0, y1, y2, y3, y4, y5, y6, y7, y8, y9].take n) := by
    have := SlAt.of_prefix n 10 HK.out (by simpa using hn10) hn10 (by simp [maxLen])
    unfold IntsAt intCells
    rw [hl10, List.map_take]
    exact this
  refine (allI_pure _ (.slice (some ⟨w.heap.size + 1, 0, none⟩) n 10) 114 #[] #[.pointer (some ⟨w.heap.size, 0, none⟩)] (fun n => !lostB h n) w' hsl (enters_of Try.func114 (by kernel_rfl) rfl) ?_).mono ?_
  · intro x _ W hW
    exact kept1_any h _ _ _ x w.heap.size W ((hW.block _ (Array.getElem?_eq_some_iff.1 HA.out).1).trans HA.out)
  · rintro e W2 ⟨rfl, hb⟩
    have HB2 := Lib.hid hb
    clear hb hsl
    go_wp2_with fail
    go_returns
    exact ⟨by simp, bgo HB.out HB2.out⟩

end Go.Proofs.Ytoibfafmnaooaaa

/-
  Contracts of package couch, tenth part: lists.
-/
import Derived.WalkKit
import Derived.WalkLawsBesides
import Derived.WalkSpells
import Derived.Outline
import Derived.Handy
import Derived.KernelRfl
import Derived.Lib.Hide
import Derived.Test.YtoibfafmnaooaaaW10
import Derived.Test.YtoibfafmnaooaaaSeq
namespace Go.Proofs.Ytoibfafmnaooaaa
open Go.RowKit Go.RG Go.SL Go.Shelf Cou
set_option maxHeartbeats 400000
set_option maxRecDepth 10000
attribute [local go_sem] Oper.semAt_some

/-- What choose works with. -/
structure ChSt (W : World) (n bx by_ bo bc ob l : Nat) (o : List Int) : Prop where
  y : W.heap[by_]? = some (.cells #[.func (.yield l) #[] #[]] 119 (0, 0))
  out : W.heap[bo]? = some (.cells #[.slice (some ⟨ob, 0, none⟩) n n] 25 (0, 0))
  ch : W.heap[bc]? = some (.cells #[.func (.func 131) #[] #[.pointer (some ⟨bx, 0, none⟩), .pointer (some ⟨by_, 0, none⟩), .pointer (some ⟨bo, 0, none⟩), .pointer (some ⟨bc, 0, none⟩)]] 111 (0, 0))
  cells : W.heap[ob]? = some (.cells (intCells o).toArray 3 (0, 0))

theorem ChSt.kept {W W' : World} {n bx by_ bo bc ob l : Nat} {o : List Int} (h : ChSt W n bx by_ bo bc ob l o) (hk : ∀ m ∈ [ob, by_, bo, bc], m < W.heap.size → W'.heap[m]? = W.heap[m]?) : ChSt W' n bx by_ bo bc ob l o :=
  ⟨(hk _ (by simp) (Array.getElem?_eq_some_iff.1 h.y).1).trans h.y, (hk _ (by simp) (Array.getElem?_eq_some_iff.1 h.out).1).trans h.out, (hk _ (by simp) (Array.getElem?_eq_some_iff.1 h.ch).1).trans h.ch, (hk _ (by simp) (Array.getElem?_eq_some_iff.1 h.cells).1).trans h.cells⟩
theorem ChSt.below {W W' : World} {n bx by_ bo bc ob l : Nat} {o : List Int} (h : ChSt W n bx by_ bo bc ob l o) (hb : Below W.heap.size W W') : ChSt W' n bx by_ bo bc ob l o :=
  ⟨(hb.block _ (Array.getElem?_eq_some_iff.1 h.y).1).trans h.y, (hb.block _ (Array.getElem?_eq_some_iff.1 h.out).1).trans h.out, (hb.block _ (Array.getElem?_eq_some_iff.1 h.ch).1).trans h.ch, (hb.block _ (Array.getElem?_eq_some_iff.1 h.cells).1).trans h.cells⟩

theorem ChSt.set {W : World} {n bx by_ bo bc ob l : Nat} {o : List Int} (h : ChSt W n bx by_ bo bc ob l o) (hd1 : by_ ≠ ob) (hd2 : bo ≠ ob) (hd3 : bc ≠ ob) (i : Nat) (x : Int) : ChSt (W.setCell ⟨ob, i, none⟩ (iv x)) n bx by_ bo bc ob l (o.set i x) :=
  ⟨(Below.heap_setCell _ _ _ _ hd1).trans h.y, (Below.heap_setCell _ _ _ _ hd2).trans h.out, (Below.heap_setCell _ _ _ _ hd3).trans h.ch, by rw [← set_ints]; exact set_block h.cells _⟩

/-- A list is handed over as the slice of block ob. -/
def ListE (Ms : List Nat) (x : List Int) (v : Value) (W : World) : Prop :=
  ∃ ob : Nat, v = .slice (some ⟨ob, 0, none⟩) x.length x.length ∧ W.heap[ob]? = some (.cells (intCells x).toArray 3 (0, 0)) ∧ ob ∈ Ms

/-- The ranges lie in the box. -/
def ListInv (bx : Nat) (v : Value) (R : List Rng) (W : World) : Prop := W.heap[bx]? = some (.cells #[v] 37 (0, 0)) ∧ PairsAt W v R

theorem choose_any (R : List Rng) (hR : ∀ r ∈ R, 0 ≤ r.1 ∧ r.1 ≤ r.2 ∧ r.2 ≤ 500) (hn : R.length ≤ 100) (bx by_ bo bc ob l : Nat) (hd1 : by_ ≠ ob) (hd2 : bo ≠ ob) (hd3 : bc ≠ ob) (v : Value) (J : List Nat → Option Nat → World → Prop)
    (hInv : ∀ Ms s W1, J Ms s W1 → ListInv bx v R W1)
    (hstep : ∀ Ms Ms' s W1 W2, J Ms s W1 → Ext Ms W1 W2 → (∀ m ∈ Ms', m ∈ Ms ∨ (W1.heap.size ≤ m ∧ m < W2.heap.size)) → True → J Ms' s W2)
    (hY : ∀ Ms k v W1 (hk : k < (prodL R).length), J Ms (some k) W1 → ListE Ms (prodL R)[k] v W1 → YieldAt Fence.wide 0 Try.prog l #[v] W1 fun e W' =>
       ((∀ m ∈ Ms, m ∉ [] → m < W1.heap.size → W'.heap[m]? = W1.heap[m]?) ∧ W1.heap.size ≤ W'.heap.size) ∧ ((e = .returned (.bool true) ∧ J Ms (some (k + 1)) W') ∨ (e = .returned (.bool false) ∧ J Ms none W'))) :
    ∀ (m i k : Nat) (pre : List Int) (W : World) (o : List Int), i + m = R.length → pre.length = i → o.length = R.length → o.take i = pre → AtFrom R i k pre → ChSt W R.length bx by_ bo bc ob l o → J [ob, by_, bo, bc] (some k) W →
      CallsIn Fence.wide 0 Try.prog 131 #[iv i, .pointer (some ⟨bx, 0, none⟩), .pointer (some ⟨by_, 0, none⟩), .pointer (some ⟨bo, 0, none⟩), .pointer (some ⟨bc, 0, none⟩)] W
        (fun e W' => (e = .returned (.bool true) ∧ J [ob, by_, bo, bc] (some (k + (prodL (R.drop i)).length)) W' ∧ ∃ o', o'.length = R.length ∧ o'.take i = pre ∧ ChSt W' R.length bx by_ bo bc ob l o') ∨
          (e = .returned (.bool false) ∧ J [ob, by_, bo, bc] none W')) := by
  intro m
  induction m with
  | zero =>
    intro i k pre W o him hpl hol hot hat hst hJ
    obtain rfl : i = R.length := by omega
    obtain ⟨hone, hk, hx⟩ := hat.last rfl
    rw [hone]
    obtain rfl : o = pre := by rw [← hot, ← hol, List.take_length]
    obtain ⟨hbx, hsl⟩ := hInv _ _ _ hJ
    obtain ⟨f1, t1, a1, b1, hy1, hR1⟩ := hY _ k (.slice (some ⟨ob, 0, none⟩) R.length R.length) W hk hJ (by rw [hx]; exact ⟨ob, by rw [hol], hst.cells, by simp⟩)
    have c1 := cell_of_block0 hbx
    have c2 := cell_of_block0 hst.y
    have c3 := cell_of_block0 hst.out
    have hlen := hsl.len
    obtain ⟨so, sc, rfl⟩ := hsl.open
    have HR := Lib.hid hR1
    have HS := Lib.hid hst
    clear hInv hstep hY hR1 hst hJ hbx hsl hat
    refine callsIn_of_wp Try.func131 rfl trivial ?_
    simp only [Try.ntmps131, List.size_toArray, List.length_cons, List.length_nil, Nat.reduceAdd, Nat.reduceSub, Array.replicate_succ, Array.replicate_zero, List.push_toArray, List.append_toArray, List.nil_append, List.cons_append]
    gi_wp2_with fail
    refine HR.out.mono ?_
    rintro e W' ⟨⟨hkeep, hsz⟩, ⟨rfl, hJ⟩ | ⟨rfl, hJ⟩⟩
    · have HJ := Lib.hid hJ
      have HK := Lib.hid hkeep
      clear hJ hkeep
      gi_wp2_with fail
      go_returns
      exact .inl ⟨by simp, HJ.out, o, hol, hot, HS.out.kept (fun m hm hml => HK.out m hm (by simp) hml)⟩
    · have HJ := Lib.hid hJ
      have HK := Lib.hid hkeep
      clear hJ hkeep
      gi_wp2_with fail
      go_returns
      exact .inr ⟨by simp, HJ.out⟩
  | succ m ih =>
    intro i k pre W o him hpl hol hot hat hst hJ
    have hi : i < R.length := by omega
    have hcount := AtFrom.count hi
    obtain ⟨hr0, hr1, hr2⟩ := hR R[i] (List.getElem_mem hi)
    obtain ⟨hbx, hsl⟩ := hInv _ _ _ hJ
    have c1 := cell_of_block0 hbx
    have c2 := cell_of_block0 hst.y
    have c3 := cell_of_block0 hst.out
    have c4 := cell_of_block0 hst.ch
    have hlen := hsl.len
    obtain ⟨so, sc, rfl⟩ := hsl.open
    obtain ⟨b, off, rfl, hb, hc0, hc1⟩ := PairsAt.cell hsl hi
    have HAT := Lib.hid hat
    have HI := Lib.hid hInv
    have HST := Lib.hid hstep
    have HS := Lib.hid hst
    have HJ := Lib.hid hJ
    have HIH := Lib.hid ih
    have HSL := Lib.hid hsl
    have HBX := Lib.hid hbx
    have hiI : (i : Int) < R.length := by omega
    have hne : (i : Int) ≠ R.length := by omega
    have hneb : ((i : Int) == R.length) = false := by simpa using hne
    have HN : Hid (AtFrom R i k pre ∧ i < R.length) := Lib.hid ⟨hat, hi⟩
    have HOL := Lib.hid (And.intro hol hot)
    have HCT := Lib.hid hcount
    have hsize : ∃ z : Nat, sizeR R[i] = z ∧ z ≤ 501 := ⟨(sizeR R[i]).toNat, by unfold sizeR; omega, by unfold sizeR; omega⟩
    obtain ⟨z, hz, hz501⟩ := hsize
    have HNX : Hid (∀ c : Nat, c < z → AtFrom R (i + 1) (k + c * (prodL (R.drop (i + 1))).length) (pre ++ [R[i].1 + (c : Int)])) := Lib.hid (fun c hc => hat.next hi c (by omega))
    have HCZ : Hid ((prodL (R.drop i)).length = z * (prodL (R.drop (i + 1))).length) := Lib.hid (by rw [hcount, hz]; simp)
    clear hInv hstep hY hat hst hJ ih hsl hbx hcount hne hol hot hR
    generalize hri : R[i] = r at *
    have HRI := Lib.hid hri
    clear hri
    have HZ := Lib.hid hz
    clear hz HCT
    have hbs := World.block_lt_of_cell? W _ c1
    have hys := World.block_lt_of_cell? W _ c2
    have hos := World.block_lt_of_cell? W _ c3
    have hcs := World.block_lt_of_cell? W _ c4
    refine callsIn_of_wp Try.func131 rfl trivial ?_
    simp only [Try.ntmps131, List.size_toArray, List.length_cons, List.length_nil, Nat.reduceAdd, Nat.reduceSub, Array.replicate_succ, Array.replicate_zero, List.push_toArray, List.append_toArray, List.nil_append, List.cons_append]
    gi_wp2_with fail
    refine ((callsIn_wide.2 (size_any r W hr0 hr1 (by omega)))).mono ?_
    rintro e W1 ⟨rfl, hb1⟩
    rw [HZ.out]
    have HB1 := Lib.hid hb1
    obtain ⟨hc, hf⟩ := bcell hb1
    clear hb1
    gi_wp2_with fail
    have hst1 : ChSt W1 R.length bx by_ bo bc ob l o := HS.out.below HB1.out
    have hJ1 : J [ob, by_, bo, bc] (some k) W1 := HST.out _ _ _ _ _ HJ.out (Ext.of_below HB1.out) (fun m hm => .inl hm) trivial
    have HS1 := Lib.hid hst1
    have HJ1 := Lib.hid hJ1
    clear hst1 hJ1 hc hf
    gi_loopw [7, 20] (fun _ u wr => ∃ c : Nat, c ≤ z ∧ u = .int .i64 c ∧ ∃ o' : List Int, o'.length = R.length ∧ o'.take i = pre ∧ ChSt wr R.length bx by_ bo bc ob l o' ∧ J [ob, by_, bo, bc] (some (k + c * (prodL (R.drop (i + 1))).length)) wr)
      (fun _ u _ => z - (intOf u).toNat)
    case atStart => exact ⟨0, Nat.zero_le _, rfl, o, HOL.out.1, HOL.out.2, HS1.out, by simpa using HJ1.out⟩
    case round =>
      obtain ⟨c, hcz, rfl, o', ho1, ho2, hst, hJ⟩ := hrel
      by_cases hlt : c < z
      · obtain ⟨hbx, hsl⟩ := HI.out _ _ _ hJ
        have d1 := cell_of_block0 hbx
        have d2 := cell_of_block0 hst.y
        have d3 := cell_of_block0 hst.out
        have d4 := cell_of_block0 hst.ch
        have hd1' := World.block_lt_of_cell? wr _ d1
        have hd2' := World.block_lt_of_cell? wr _ d2
        have hd3' := World.block_lt_of_cell? wr _ d3
        have hd4' := World.block_lt_of_cell? wr _ d4
        obtain ⟨b', off', hbb, hb', e0, e1⟩ := PairsAt.cell hsl HN.out.2
        cases hbb
        rw [HRI.out] at e0 e1
        have hio : i < o'.length := by omega
        have d5 := cell_of_ints hst.cells hio
        have hd5' := World.block_lt_of_cell? wr _ d5
        have hfr := frozen_of_block hst.cells
        have HSt := Lib.hid hst
        have HJt := Lib.hid hJ
        have HO := Lib.hid (And.intro ho1 ho2)
        clear hst hJ hbx hsl ho1 ho2 c1 c2 c3 c4 hc0 hc1
        have hltI : (c : Int) < z := by omega
        gi_wp2_with fail
        refine wpIn_region_rg 10 [] none [] (by kernel_rfl) (by kernel_rfl) (by kernel_rfl) ?_
        simp only [List.take_succ_cons, List.take_zero, List.drop_succ_cons, List.drop_zero]
        repeat (refine tree_det (by rfl) _ (by rfl) (fun W hW => by go_simp; (try simp (disch := omega) only [IntWalk.i64_in]); try rfl) ?_; simp only [Act.put, List.setIfInBounds_toArray, List.set_cons_succ, List.set_cons_zero])
        intro W hE hF
        obtain ⟨hc, hf⟩ := bcell hE.below
        have hzE := hE.size
        (try simp only [World.size_alloc] at hzE)
        have HE := Lib.hid hE.below
        clear hE hF
        gi_wp2_with fail
        have hstS := (HSt.out.below HE.out).set hd1 hd2 hd3 i (r.1 + (c : Int))
        have hJS : J [ob, by_, bo, bc] (some (k + c * (prodL (R.drop (i + 1))).length)) (W.setCell ⟨ob, i, none⟩ (iv (r.1 + (c : Int)))) :=
          HST.out _ _ _ _ _ (HST.out _ _ _ _ _ HJt.out (Ext.of_below HE.out) (fun m hm => .inl hm) trivial) ((ext_set W ⟨ob, i, none⟩ _).more (fun x hx => by simp at hx; subst hx; simp)) (fun m hm => .inl hm) trivial
        have hcall := HIH.out (i + 1) _ (pre ++ [r.1 + (c : Int)]) _ (o'.set i (r.1 + (c : Int))) (by omega) (by simp [hpl]) (by simp [HO.out.1]) (by
          rw [List.take_set]
          rw [List.take_add_one, HO.out.2]
          have hio : i < o'.length := by have := HO.out.1; omega
          rw [List.getElem?_eq_getElem hio]
          simp [List.set_append_right, hpl]) (HNX.out c hlt) hstS hJS
        rw [show ((i + 1 : Nat) : Int) = (i : Int) + 1 from by omega] at hcall
        have HCALL := Lib.hid hcall
        clear hcall hstS hJS
        refine HCALL.out.mono ?_
        rintro e W2 (⟨rfl, hJ2, o2, ho1, ho2, hst2⟩ | ⟨rfl, hJ2⟩)
        · have HJ2 := Lib.hid hJ2
          have HST2 := Lib.hid hst2
          have HO2 := Lib.hid (And.intro ho1 ho2)
          clear hJ2 hst2 ho1 ho2 hc hf d1 d2 d3 d4 d5 hfr e0 e1
          gi_wp2_with fail
          go_roundw
          case rel =>
            refine ⟨c + 1, by omega, by go_num, o2, HO2.out.1, ?_, HST2.out, ?_⟩
            · have := congrArg (List.take i) HO2.out.2
              rw [List.take_take, Nat.min_eq_left (by omega)] at this
              rw [this, List.take_append_of_le_length (by omega), List.take_of_length_le (by omega)]
            · rw [Nat.add_mul, Nat.one_mul, ← Nat.add_assoc]; exact HJ2.out
          case measure => simp [intOf]; omega
        · have HJ2 := Lib.hid hJ2
          clear hJ2 hc hf d1 d2 d3 d4 d5 hfr e0 e1
          gi_wp2_with fail
          go_returns
          exact .inr ⟨by simp, HJ2.out⟩
      · have hcz' : c = z := by omega
        subst hcz'
        have HJt := Lib.hid hJ
        have HSt := Lib.hid hst
        have HO := Lib.hid (And.intro ho1 ho2)
        clear hJ hst ho1 ho2 c1 c2 c3 c4 hc0 hc1
        gi_wp2_with fail
        go_returns
        refine .inl ⟨by simp, ?_, o', HO.out.1, HO.out.2, HSt.out⟩
        rw [HCZ.out]; exact HJt.out

end Go.Proofs.Ytoibfafmnaooaaa

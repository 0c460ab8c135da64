/-
  Contracts of package weed, sixth part: a field at work.
-/
import Derived.WalkKit
import Derived.WalkLawsBesides
import Derived.WalkSpells
import Derived.Outline
import Derived.Handy
import Derived.KernelRfl
import Derived.Lib.Hide
import Derived.Test.YtdjgikcnmokjkaaPE
namespace Go.Proofs.Ytdjgikcnmokjkaa
open Go.RowKit Go.RG Go.SL Go.Shelf Cou Go.TB
set_option maxHeartbeats 400000
set_option maxRecDepth 10000
attribute [local go_sem] Oper.semAt_some

theorem tAns : SliceT Try.prog 91 96 (.agg #[iv 0, iv 0, iv 0, iv 0, iv 0, iv 0, iv 0]) 7 56 := ⟨Try.underlying91, by kernel_rfl, rfl, by omega⟩

/-- A caller's frame where nothing old turns: the caller's own blocks Os lie apart from the iterator's blocks Ms. -/
structure FrB (w : World) (Os Ms : List Nat) (W : World) : Prop where
  ext : Below w.heap.size w W
  old : ∀ m ∈ Ms, w.heap.size ≤ m
  bnd : ∀ m ∈ Ms, m < W.heap.size
  apart : ∀ b ∈ Os, b ∉ Ms ∧ b < W.heap.size

theorem FrB.step {w : World} {Os Ms Ms' : List Nat} {W1 W2 : World} (h : FrB w Os Ms W1) (hE : Ext Ms W1 W2) (hMs : ∀ m ∈ Ms', m ∈ Ms ∨ (W1.heap.size ≤ m ∧ m < W2.heap.size)) :
    FrB w Os Ms' W2 ∧ ∀ b ∈ Os, W2.heap[b]? = W1.heap[b]? := by
  have hsz := h.ext.size
  refine ⟨⟨h.ext.trans ⟨hE.os, hE.tape, hE.output, hE.size, fun k hk => ?_⟩, fun m hm => ?_, fun m hm => ?_, fun b hb => ?_⟩, fun b hb => hE.block b (h.apart b hb).2 (h.apart b hb).1⟩
  · exact hE.block k (by omega) (fun hk' => by have := h.old k hk'; omega)
  · rcases hMs m hm with h1 | h1
    · exact h.old m h1
    · omega
  · rcases hMs m hm with h1 | h1
    · exact Nat.lt_of_lt_of_le (h.bnd m h1) hE.size
    · exact h1.2
  · refine ⟨fun hb' => ?_, Nat.lt_of_lt_of_le (h.apart b hb).2 hE.size⟩
    rcases hMs b hb' with h1 | h1
    · exact (h.apart b hb).1 h1
    · have := (h.apart b hb).2; omega
theorem FrB.own {w : World} {Os Ms : List Nat} {W1 W2 : World} (h : FrB w Os Ms W1) (hE : Below w.heap.size w W2) (hs : W1.heap.size ≤ W2.heap.size) : FrB w Os Ms W2 :=
  ⟨hE, h.old, fun m hm => Nat.lt_of_lt_of_le (h.bnd m hm) hs, fun b hb => ⟨(h.apart b hb).1, Nat.lt_of_lt_of_le (h.apart b hb).2 hs⟩⟩
theorem FrB.put {w : World} {Os Ms : List Nat} {W : World} (h : FrB w Os Ms W) {r : Nat} (o : Obj) (hr : w.heap.size ≤ r) : FrB w Os Ms (W.putObj r o) :=
  h.own (h.ext.trans ⟨rfl, rfl, rfl, by simp, fun k hk => World.putObj_heap_other (by omega)⟩) (by simp)

def ansCells (ls : List (List Int)) : List Value := ls.flatMap fun x => intCells (pad7 x)
abbrev wkcells (f : FieldD) (tv v : Value) : Array Value := #[iv f.rows, iv f.weeders, iv f.left.1, iv f.left.2, tv, v]

theorem truthsF_count {f : FieldD} (hS : SoundF f) (out : List Int) : (truthsF f out).length ≤ 2500 := by
  have h1 := prodL_count (rangesF f) (rangesF_sz hS)
  rw [prod_rangesF] at h1
  have h2 := hS.many
  have h3 : (truthsF f out).length ≤ (allF f).length := List.length_filter_le _ _
  unfold allF at h3
  omega

/-- asked's own blocks: the field at work, the pointer to it, the iterator's two boxes. -/
structure AkSt (B : Nat) (f : FieldD) (tv : Value) (ls : List (List Int)) (Ms : List Nat) (W : World) : Prop where
  work : ∃ v, W.heap[B]? = some (.cells (wkcells f tv v) 93 (0, 0)) ∧ W.ownsRow (B + 6) 96 7 v ls.length (ansCells ls) ∧ ∀ g, v.ownBlock = some g → g ∉ Ms ∧ g < W.heap.size
  ptr : W.heap[B + 1]? = some (.cells #[.pointer (some ⟨B, 0, none⟩)] 88 (0, 0))
  b2 : W.heap[B + 2]? = some (.cells (fcells f tv) 36 (0, 0))
  b3 : W.heap[B + 3]? = some (.cells #[.slice none 0 0] 42 (0, 0))

theorem AkSt.kept {B : Nat} {f : FieldD} {tv : Value} {ls : List (List Int)} {Ms Ms' : List Nat} {W W' : World} (h : AkSt B f tv ls Ms W) (hs : W.heap.size ≤ W'.heap.size) (hk : ∀ b, B ≤ b → b < B + 4 → W'.heap[b]? = W.heap[b]?)
    (ho : ∀ g, B + 6 ≤ g → g < W.heap.size → g ∉ Ms → W'.heap[g]? = W.heap[g]?) (hM : ∀ m ∈ Ms', m ∈ Ms ∨ (W.heap.size ≤ m ∧ m < W'.heap.size)) : AkSt B f tv ls Ms' W' := by
  obtain ⟨v, h1, h2, h3⟩ := h.work
  refine ⟨⟨v, (hk _ (by omega) (by omega)).trans h1, owns_keep h2 fun g hg => ho g (owns_ge h2 g hg).1 (owns_ge h2 g hg).2 (h3 g hg).1, fun g hg => ⟨fun hm => ?_, by have := (h3 g hg).2; omega⟩⟩,
    (hk _ (by omega) (by omega)).trans h.ptr, (hk _ (by omega) (by omega)).trans h.b2, (hk _ (by omega) (by omega)).trans h.b3⟩
  rcases hM g hm with h4 | h4
  · exact (h3 g hg).1 h4
  · have := (h3 g hg).2; omega

/-- A field at work, with its truths. -/
structure WkAt (W : World) (wb : Nat) (f : FieldD) (tv v : Value) (ls : List (List Int)) : Prop where
  cells : W.heap[wb]? = some (.cells (wkcells f tv v) 93 (0, 0))
  tal : TalliesAt W tv f.tallies
  truth : SlAt 7 W v ls.length (ansCells ls)

theorem WkAt.lt {W : World} {wb : Nat} {f : FieldD} {tv v : Value} {ls : List (List Int)} (h : WkAt W wb f tv v ls) : wb < W.heap.size := (Array.getElem?_eq_some_iff.1 h.cells).1
theorem WkAt.below {W W' : World} {wb : Nat} {f : FieldD} {tv v : Value} {ls : List (List Int)} (h : WkAt W wb f tv v ls) {B : Nat} (hb : Below B W W') (hB : W.heap.size ≤ B) : WkAt W' wb f tv v ls :=
  ⟨(hb.block _ (by have := h.lt; omega)).trans h.cells, h.tal.below hb hB, h.truth.below hb hB⟩

def askFErr (f : FieldD) (fine : Bool) : Int := if faultF f ≠ 0 then faultF f else if fine = false then 2 else if (truthsF f []).isEmpty then 11 else 0
def AskFPost (f : FieldD) (tv : Value) (fine : Bool) (w : World) (e : Ending) (w' : World) : Prop :=
  Below w.heap.size w w' ∧ ((askFErr f fine ≠ 0 ∧ e = .returned (.tuple #[.pointer none, .int .i64 (askFErr f fine)])) ∨
    (askFErr f fine = 0 ∧ ∃ (wb : Nat) (v : Value), e = .returned (.tuple #[.pointer (some ⟨wb, 0, none⟩), .int .i64 0]) ∧ w.heap.size ≤ wb ∧ WkAt w' wb f tv v (truthsF f [])))

theorem wasked_any (f : FieldD) (tv : Value) (g : Nat) (caps : Array Value) (fine : Bool) (w : World) (ht : TalliesAt w tv f.tallies) (eg : ∀ args w, (callFunc g args).run Try.prog w = .ok (.enter g args) w)
    (hfine : ∀ W, Below w.heap.size w W → Calls Try.prog g caps W (PV (.bool fine) W)) :
    Calls Try.prog 41 #[fv f tv, .func (.func g) #[] caps] w (AskFPost f tv fine w) := by
  obtain ⟨o, c, rfl⟩ := ht.open
  have HT := Lib.hid ht
  have HF := Lib.hid hfine
  clear ht hfine
  by_cases hf0 : faultF f = 0
  case neg =>
    have HE : Hid (askFErr f fine = faultF f ∧ askFErr f fine ≠ 0) := Lib.hid (by unfold askFErr; rw [if_pos hf0]; exact ⟨rfl, hf0⟩)
    have HC := Lib.hid (checkF_any f (.slice o f.tallies.length c))
    generalize hff : faultF f = e at *
    clear hff
    go_enter Try.func41, Try.ntmps41
    go_wp2_with fail
    refine (HC.out _ (HT.out.alloc _)).mono ?_
    rintro e w' ⟨rfl, hb⟩
    go_wp2_with fail
    go_returns
    exact ⟨(by repeat (first | exact Below.refl _ _ | assumption | refine bgo ?_ (by assumption) | refine bgoAlloc ?_ _ | refine bgoDrew ?_ | refine bgoSet ?_ (by simp; omega) _)), .inl ⟨HE.out.2, by rw [HE.out.1]; simp⟩⟩
  have HC := Lib.hid (fun w => hf0 ▸ checkF_any f (.slice o f.tallies.length c) w)
  have HSS := Lib.hid (soundF_of hf0)
  have HF0 := Lib.hid hf0
  clear hf0
  cases fine
  · have HE : Hid (askFErr f false = 2) := Lib.hid (by unfold askFErr; rw [if_neg (by rw [HF0.out]; simp), if_pos rfl])
    go_enter Try.func41, Try.ntmps41
    go_wp2_with fail
    refine (HC.out _ (HT.out.alloc _)).mono ?_
    rintro e w' ⟨rfl, hb⟩
    have HB1 := Lib.hid (show Below w.heap.size w w' from (by repeat (first | exact Below.refl _ _ | assumption | refine bgo ?_ (by assumption) | refine bgoAlloc ?_ _ | refine bgoDrew ?_ | refine bgoSet ?_ (by simp; omega) _)))
    clear hb
    go_wp2_with fail
    refine (HF.out _ HB1.out).mono ?_
    rintro e w2 ⟨rfl, hb⟩
    have HB2 := Lib.hid (bgo HB1.out hb)
    clear hb
    go_wp2_with fail
    go_returns
    exact ⟨HB2.out, .inl ⟨by rw [HE.out]; simp, by rw [HE.out]; simp⟩⟩
  have HE : Hid (askFErr f true = if (truthsF f []).isEmpty then 11 else 0) := Lib.hid (by unfold askFErr; rw [if_neg (by rw [HF0.out]; simp), if_neg (by simp)])
  refine (callsIn_wide (n := 0)).1 ?_
  refine callsIn_of_wp_marks Try.func41 rfl trivial ?_
  simp only [Try.ntmps41, List.size_toArray, List.length_cons, List.length_nil, Nat.reduceAdd, Nat.reduceSub, Array.replicate_succ, Array.replicate_zero, List.push_toArray, List.append_toArray, List.nil_append, List.cons_append]
  gi_wp2_with fail
  refine (callsIn_wide.2 (HC.out _ (HT.out.alloc _))).mono ?_
  rintro e w1 ⟨rfl, hb⟩
  obtain ⟨hc1, hf1⟩ := bcell hb
  have hz1 : w.heap.size < w1.heap.size := by have := hb.size; simp at this; omega
  have HB1 := Lib.hid (show Below w.heap.size w w1 from (by repeat (first | exact Below.refl _ _ | assumption | refine bgo ?_ (by assumption) | refine bgoAlloc ?_ _ | refine bgoDrew ?_ | refine bgoSet ?_ (by simp; omega) _)))
  clear hb
  gi_wp2_with fail
  refine (callsIn_wide.2 (HF.out _ HB1.out)).mono ?_
  rintro e w2 ⟨rfl, hb⟩
  obtain ⟨hc2, hf2⟩ := bcell hb
  have hz2 : w.heap.size < w2.heap.size := by have := hb.size; omega
  have HB2 := Lib.hid (bgo HB1.out hb)
  clear hb
  gi_wp2_with fail
  refine (callsIn_wide.2 (wtruths_any f _ none 0 0 _)).mono ?_
  rintro e w3 ⟨rfl, rfl⟩
  gi_wp2_with fail
  obtain ⟨B, hBdef⟩ : ∃ B, w2.heap.size = B := ⟨_, rfl⟩
  rw [hBdef]
  obtain ⟨w4, hw4⟩ : ∃ w4, ((((w2.alloc (.cells #[iv f.rows, iv f.weeders, iv f.left.1, iv f.left.2, .slice o f.tallies.length c, .slice none 0 0] 93)).alloc (.cells #[.pointer (some ⟨B, 0, none⟩)] 88)).alloc (.cells (fcells f (.slice o f.tallies.length c)) 36)).alloc (.cells #[.slice none 0 0] 42)) = w4 := ⟨_, rfl⟩
  have hsz4 : w4.heap.size = B + 4 := by rw [← hw4]; simp; omega
  have hwB : w.heap.size < B := by omega
  have HB4 : Hid (Below w.heap.size w w4) := Lib.hid (by rw [← hw4]; exact bgoAlloc (bgoAlloc (bgoAlloc (bgoAlloc HB2.out _) _) _) _)
  have HA4 : Hid (AkSt B f (.slice o f.tallies.length c) [] [] w4) := Lib.hid (by
    rw [← hw4]
    refine ⟨⟨.slice none 0 0, ?_, ⟨rfl, .inl ⟨rfl, rfl⟩⟩, fun g hg => by cases hg⟩, ?_, ?_, ?_⟩
    · rw [← hBdef]; exact (Below.heap_alloc _ _ _ (by simp; omega)).trans ((Below.heap_alloc _ _ _ (by simp; omega)).trans ((Below.heap_alloc _ _ _ (by simp)).trans (heap_new0 _ _)))
    · rw [← hBdef]; exact (Below.heap_alloc _ _ _ (by simp)).trans ((Below.heap_alloc _ _ _ (by simp)).trans (heap_new1 _ _ _))
    · rw [← hBdef]; exact (Below.heap_alloc _ _ _ (by simp)).trans (heap_new2 _ _ _ _)
    · rw [← hBdef]; exact heap_new3 _ _ _ _ _)
  rw [hw4]
  clear hw4 hc1 hf1 hz1 hc2 hf2
  have hOs : ∀ b, b ∈ [w.heap.size, B, B + 1, B + 2, B + 3, B + 4, B + 5] ↔ b = w.heap.size ∨ (B ≤ b ∧ b < B + 6) := fun b => by simp; omega
  obtain ⟨Os, hOsd⟩ : ∃ Os, [w.heap.size, B, B + 1, B + 2, B + 3, B + 4, B + 5] = Os := ⟨_, rfl⟩
  rw [hOsd] at hOs
  clear hOsd
  have HT' : Hid (∀ W, Below w.heap.size w W → TalliesAt W (.slice o f.tallies.length c) f.tallies) := Lib.hid (fun W hb => HT.out.below hb (Nat.le_refl _))
  refine wpIn_rangeC (wtruths_seq f HSS.out (.slice o f.tallies.length c) (.slice none 0 0) [] (B + 1 + 1) (B + 1 + 1 + 1)) rfl (enters_of Try.func105 (by kernel_rfl) rfl) rfl (by simp)
    (fun Ms k W => FrB w Os Ms W ∧ AkSt B f (.slice o f.tallies.length c) ((truthsF f []).take k) Ms W)
    (fun _ _ _ => False)
    ?hInv ?hInvx ?hI ?hIx ?hIp ?hIxp ?h0
    (fun a Ms k W1 a₁ W => ∃ (x : List Int) (bt : Nat), (truthsF f [])[k]? = some x ∧ a₁ = { tmps := (a.tmps.setIfInBounds 24 (aggI (pad7 x))).setIfInBounds 8 (.pointer (some ⟨bt, 0, none⟩)), defers := [] } ∧
      (FrB w Os Ms W ∧ AkSt B f (.slice o f.tallies.length c) ((truthsF f []).take k) Ms W) ∧ (W.heap[bt]? = some (.cells (intCells (pad7 x)).toArray 96 (0, 0)) ∧ B + 6 ≤ bt ∧ bt ∉ Ms ∧ (∀ v, W.heap[B]? = some (.cells (wkcells f (.slice o f.tallies.length c) v) 93 (0, 0)) → v.ownBlock ≠ some bt)) ∧
      (∀ m ∈ Ms, m ∉ ([] : List Nat) → m < W1.heap.size → W.heap[m]? = W1.heap[m]?) ∧ W1.heap.size ≤ W.heap.size)
    ?hMp ?hassign ?hbody ?hdone ?hstop
  case hInv =>
    rintro Ms k W ⟨hF, hP⟩
    exact ⟨hP.b2, hP.b3, HT'.out W hF.ext, SlAt.nil 1 W⟩
  case hInvx => rintro cd Ms W h; exact h.elim
  case hI =>
    rintro Ms Ms' k Wa Wb ⟨hF, hP⟩ hE hMs _
    exact ⟨(hF.step hE hMs).1, hP.kept hE.size (fun b h1 h2 => (hF.step hE hMs).2 b ((hOs b).2 (by omega))) (fun g h1 h2 h3 => hE.block g h2 h3) hMs⟩
  case hIx => rintro cd Ms Ms' Wa Wb h; exact h.elim
  case hIp =>
    rintro Ms k W r ob ⟨hF, hP⟩ hr
    exact ⟨hF.put ob (by omega), hP.kept (by simp) (fun b h1 h2 => World.putObj_heap_other (by omega)) (fun g h1 h2 h3 => World.putObj_heap_other (by omega)) (fun m hm => .inl hm)⟩
  case hIxp => rintro cd Ms W r ob h; exact h.elim
  case h0 =>
    intro o1 o2
    refine ⟨⟨bgoAlloc (bgoAlloc HB4.out _) _, by simp, by simp, fun b hb => ⟨by simp, by have := (hOs b).1 hb; simp; omega⟩⟩, ?_⟩
    rw [List.take_zero]
    exact HA4.out.kept (by simp; omega) (fun b h1 h2 => (Below.heap_alloc _ _ _ (by simp; omega)).trans (Below.heap_alloc _ _ _ (by omega))) (fun g h1 h2 h3 => by omega) (fun m hm => .inl hm)
  case hMp =>
    rintro Ms k W1 a₁ W ob ⟨x, bt, hx, ha, ⟨hF, hP⟩, ⟨hbt, hb6, hbM, hbv⟩, hk, hs⟩
    have hap := (hF.apart (B + 5) ((hOs _).2 (by omega))).1
    refine ⟨x, bt, hx, ha, ⟨hF.put ob (by omega), hP.kept (by simp) (fun b h1 h2 => World.putObj_heap_other (by omega)) (fun g h1 h2 h3 => World.putObj_heap_other (by omega)) (fun m hm => .inl hm)⟩,
      ⟨(World.putObj_heap_other (by omega)).trans hbt, hb6, hbM, fun v hv => hbv v ((World.putObj_heap_other (by omega)).symm.trans hv)⟩,
      fun m hm h0 hml => (World.putObj_heap_other (fun e => hap (by rw [show B + 5 = m by omega]; exact hm))).trans (hk m hm h0 hml), by simpa using hs⟩
  case hassign =>
    rintro Ms k v W hk ⟨hF, hP⟩ hE hlt
    obtain rfl : v = aggI (pad7 (truthsF f [])[k]) := hE
    have hxk : (truthsF f [])[k]? = some (truthsF f [])[k] := List.getElem?_eq_getElem hk
    have hxl := truthsF_len (List.getElem_mem hk)
    generalize (truthsF f [])[k] = x at *
    have hr7 := HSS.out.rows1
    obtain ⟨y0, y1, y2, y3, y4, y5, y6, hys⟩ := seven_of (pad7_len (x := x) (by omega))
    have hYS := Lib.hid hys
    rw [hys]
    rw [show aggI [y0, y1, y2, y3, y4, y5, y6] = .agg #[iv y0, iv y1, iv y2, iv y3, iv y4, iv y5, iv y6] from rfl]
    gi_wp2
    have hB' : Below W.heap.size W (W.alloc (.cells #[iv y0, iv y1, iv y2, iv y3, iv y4, iv y5, iv y6] 96)) := bgoAlloc (Below.refl _ _) _
    refine ⟨⟨x, W.heap.size, hxk, ?_, ⟨(hF.step (Ext.of_below hB') (fun m hm => .inl hm)).1, hP.kept (by simp) (fun b h1 h2 => Below.heap_alloc _ _ _ (by omega)) (fun g h1 h2 h3 => Below.heap_alloc _ _ _ (by omega)) (fun m hm => .inl hm)⟩,
      ⟨?_, by omega, fun hm => by have := hF.bnd _ hm; omega, fun v hv e => ?_⟩, fun m hm h0 hml => Below.heap_alloc _ _ _ (by omega), by simp⟩, Below.heap_alloc _ _ _ (by omega), Below.heap_alloc _ _ _ (by omega)⟩
    · rw [hYS.out]; rfl
    · rw [hYS.out]; exact heap_new0 _ _
    · obtain ⟨v0, h1, h2, h3⟩ := hP.work
      have h4 := (Below.heap_alloc _ _ _ (by omega)).symm.trans hv
      rw [h1] at h4
      simp only [Option.some.injEq, Obj.cells.injEq, and_true, Array.mk.injEq, List.cons.injEq, true_and] at h4
      subst h4
      have := (h3 _ e).2
      omega
  case hbody =>
    rintro Ms k W1 a₁ W busy hk ⟨x, bt, hx, rfl, ⟨hF, hP⟩, ⟨hbt, hb6, hbM, hbv⟩, hkeep, hsz⟩ hrec hD
    simp only [List.setIfInBounds_toArray, List.set_cons_succ, List.set_cons_zero]
    obtain ⟨v, hv1, hv2, hv3⟩ := hP.work
    obtain ⟨vo, vc, rfl⟩ := owns_slice hv2
    have hbv' := hbv _ hv1
    obtain ⟨c1, f1, l1⟩ := cells_of_block hP.ptr
    obtain ⟨c2, f2, l2⟩ := cells_of_block hv1
    have hxl := truthsF_len (List.mem_of_getElem? hx)
    have hr7 := HSS.out.rows1
    obtain ⟨y0, y1, y2, y3, y4, y5, y6, hys⟩ := seven_of (pad7_len (x := x) (by omega))
    have hbt' := hbt
    rw [hys] at hbt'
    obtain ⟨c3, f3, l3⟩ := cells_of_block (show W.heap[bt]? = some (.cells #[iv y0, iv y1, iv y2, iv y3, iv y4, iv y5, iv y6] 96 (0, 0)) from hbt')
    have hw := (hF.apart w.heap.size ((hOs _).2 (.inl rfl)))
    obtain ⟨gx, hgx, hgx1, hgx2, hgx3, hgx4, hgx5⟩ : ∃ gx, (∀ g, (Value.slice vo ((truthsF f []).take k).length vc).ownBlock = some g → g = gx) ∧ (gx = w.heap.size ∨ B + 6 ≤ gx) ∧ gx < W.heap.size ∧ gx ∉ Ms ∧ gx ≠ bt ∧ w.heap.size ≤ gx := by
      cases hob : (Value.slice vo ((truthsF f []).take k).length vc).ownBlock with
      | none => exact ⟨w.heap.size, (fun g hg => by cases hg), .inl rfl, hw.2, hw.1, by omega, by omega⟩
      | some g =>
        have h1 := owns_ge hv2 g hob
        have h2 := hv3 g hob
        exact ⟨g, (fun g' hg => by cases hg; rfl), .inr h1.1, h1.2, h2.1, fun e => hbv' (by rw [hob, e]), by omega⟩
    have hkl : ((truthsF f []).take k).length = k := by rw [List.length_take]; omega
    rw [hkl] at hv1 hv2 hgx c2 hv3
    have hk25 : k ≤ 2500 := by have := truthsF_count HSS.out []; omega
    have HF := Lib.hid hF
    have HP := Lib.hid hP
    have HV := Lib.hid (And.intro hv1 (And.intro hv2 hv3))
    have HX := Lib.hid (And.intro hx (And.intro hys hxl))
    have HK := Lib.hid (And.intro hkeep (And.intro hrec hD))
    have HG := Lib.hid hgx
    have HBT := Lib.hid hbt'
    clear hF hP hv1 hv2 hv3 hx hys hxl hkeep hrec hD hgx hbt hbt' hbv hbv' hw
    have q1 : gx ≠ B := by omega
    have q2 : gx ≠ B + 1 := by omega
    have q1' : B ≠ gx := by omega
    have q2' : B + 1 ≠ gx := by omega
    have q3' : bt ≠ gx := by omega
    gi_wp2_with fail
    refine wpIn_region_rgR 8 [gx] (some 7) [(6, Spec.slice W.heap.size #[iv y0, iv y1, iv y2, iv y3, iv y4, iv y5, iv y6] 96 1), (7, ⟨fun _ v => ∃ o c, v = .slice o (k + 1) c, fun _ v Wx => Wx.ownsRow (B + 6) 96 7 v (k + 1) (ansCells ((truthsF f []).take (k + 1))) ∧ (∀ g, v.ownBlock = some g → g = gx ∨ W.heap.size ≤ g)⟩)] (by kernel_rfl) (by kernel_rfl) (by kernel_rfl) ?_
    simp only [List.take_succ_cons, List.take_zero, List.drop_succ_cons, List.drop_zero]
    repeat (first | (refine tree_det (by rfl) _ (by rfl) (fun W hW => by go_simp; (try simp (disch := omega) only [IntWalk.i64_in]); try rfl) ?_; simp only [Act.put, List.setIfInBounds_toArray, List.set_cons_succ, List.set_cons_zero]) | (refine tree_skip (by rfl) (by rfl) ?_; simp only [Act.put, List.setIfInBounds_toArray, List.set_cons_succ, List.set_cons_zero]))
    refine tree_slice W.heap.size _ _ 1 (by rfl) (Nat.le_refl _) (by rfl) (by simpa using hgx2) (by simp) (fun W hW => by go_simp; try rfl) (fun b6 => ?_)
    simp only [Act.put, List.setIfInBounds_toArray, List.set_cons_succ, List.set_cons_zero]
    refine tree_some _ (by rfl) (by rfl) (by exact ⟨.slice none (k + 1) 0, none, 0, rfl⟩) (fun W6 hE hF => ?_) (fun v Wa Wb ho hE => ?_) (fun v hv => ?_)
    · have hE' : Ext [] W W6 := hE
      obtain ⟨b', hb', hge, hcc⟩ := hF _ (List.Mem.head _) (by kernel_rfl)
      cases hb'
      have hown6 := owns_ext (Ms := []) HV.out.2.1 hE' (by simp)
      have hsrc : SlAt 7 W6 (.slice (some ⟨b6, 0, none⟩) 1 1) 1 (intCells (pad7 x)) := by
        rw [HX.out.2.1]
        exact SlAt.of_block 7 1 hcc rfl (by decide)
      refine Does.mono (does_append_at tAns (by rfl) (by rfl) hown6 (by rfl) hsrc (one_ints _) (by omega) (by omega) (by have := hE'.size; omega)) ?_
      rintro v' W7 ⟨ho, hgr, hcase⟩
      refine ⟨owns_slice ho, ⟨?_, fun g hg => ?_⟩, ⟨hgr.os, hgr.tape, hgr.output, hgr.size, fun b hb hn => hgr.block b hb (fun e => hn (by rw [HG.out b e.symm]; simp))⟩⟩
      · have hl : (truthsF f []).take (k + 1) = (truthsF f []).take k ++ [x] := by
          rw [List.take_add_one, HX.out.1]; rfl
        rw [hl]
        unfold ansCells
        rw [List.flatMap_append]
        simpa [ansCells] using ho
      · rcases hcase with h1 | h1
        · exact .inl (HG.out g (by rw [← h1, hg]))
        · rw [hg] at h1; injection h1 with h1; exact .inr (by have := hE'.size; omega)
    · exact ⟨owns_ext (Ms := []) ho.1 hE (by simp), ho.2⟩
    obtain ⟨o7, c7, rfl⟩ := hv
    simp only [Act.put, List.setIfInBounds_toArray, List.set_cons_succ, List.set_cons_zero]
    intro W8 hE hF
    have hE' : Ext [gx] W W8 := hE
    obtain ⟨ho8, hg8⟩ := hF _ (List.Mem.head _)
    have hwk8 : W8.heap[B]? = some (.cells (wkcells f (.slice o f.tallies.length c) (.slice vo k vc)) 93 (0, 0)) := (hE'.block _ l2 (by simpa using q1')).trans HV.out.1
    obtain ⟨c8, f8, l8⟩ := cells_of_block hwk8
    have HE8 := Lib.hid hE'
    have HO8 := Lib.hid (And.intro ho8 (And.intro hg8 hwk8))
    clear hE hF hE' ho8 hg8 c1 f1 l1 c2 f2 c3 f3 l3 hwk8
    gi_wp2_with fail
    have hkl1 : k + 1 = ((truthsF f []).take (k + 1)).length := by rw [List.length_take]; omega
    obtain ⟨v', hv'⟩ : ∃ v', Value.slice o7 (k + 1) c7 = v' := ⟨_, rfl⟩
    rw [hv'] at HO8 ⊢
    have hsz9 : (W8.setCell ⟨B, 5, none⟩ v').heap.size = W8.heap.size := by simp [World.setCell]
    have hs8 := HE8.out.size
    have hks : ∀ b, b < W.heap.size → b ≠ gx → b ≠ B → (W8.setCell ⟨B, 5, none⟩ v').heap[b]? = W.heap[b]? := fun b hb h1 h2 =>
      (Below.heap_setCell _ _ _ _ h2).trans (HE8.out.block b hb (by simpa using h1))
    have hap : ∀ b ∈ Os, b ∉ Ms ∧ b < W.heap.size := HF.out.apart
    have hin : ∀ b, B ≤ b → b < B + 6 → b ∈ Os := fun b h1 h2 => (hOs b).2 (by omega)
    have hFB : FrB w Os Ms (W8.setCell ⟨B, 5, none⟩ v') := HF.out.own (HF.out.ext.trans ⟨HE8.out.os, HE8.out.tape, HE8.out.output, by rw [hsz9]; exact hs8, fun b hb => (Below.heap_setCell _ _ _ _ (by show b ≠ B; omega)).trans (HE8.out.block b (by have := HF.out.ext.size; omega) (by simp; omega))⟩) (by rw [hsz9]; exact hs8)
    refine ⟨⟨?_, ?_, fun m hm h0 hml => ?_, by rw [hsz9]; omega⟩, hFB, ⟨v', set_block HO8.out.2.2 _, hkl1 ▸ owns_keep HO8.out.1 fun g hg => Below.heap_setCell _ _ _ _ (by have := (owns_ge HO8.out.1 g hg).1; show g ≠ B; omega), fun g hg => ⟨fun hm => ?_, by rw [hsz9]; exact (owns_ge HO8.out.1 g hg).2⟩⟩, ?_, ?_, ?_⟩
    · exact (hks _ (hap _ (hin (w4.heap.size + 1) (by omega) (by omega))).2 (by omega) (by omega)).trans HK.out.2.1
    · exact (hks _ (hap _ (hin w4.heap.size (by omega) (by omega))).2 (by omega) (by omega)).trans HK.out.2.2
    · exact (hks m (HF.out.bnd m hm) (fun e => hgx3 (e ▸ hm)) (fun e => (hap B (hin B (by omega) (by omega))).1 (e ▸ hm))).trans (HK.out.1 m hm h0 hml)
    · rcases HO8.out.2.1 g hg with h1 | h1
      · exact hgx3 (h1 ▸ hm)
      · have := HF.out.bnd g hm; omega
    · exact (hks _ (hap _ (hin (B + 1) (by omega) (by omega))).2 (by omega) (by omega)).trans HP.out.ptr
    · exact (hks _ (hap _ (hin (B + 2) (by omega) (by omega))).2 (by omega) (by omega)).trans HP.out.b2
    · exact (hks _ (hap _ (hin (B + 3) (by omega) (by omega))).2 (by omega) (by omega)).trans HP.out.b3
  case hdone =>
    rintro Ms W ⟨hF, hP⟩ hD hlt
    rw [List.take_length] at hP
    obtain ⟨v, hv1, hv2, hv3⟩ := hP.work
    obtain ⟨vo, vc, rfl⟩ := owns_slice hv2
    obtain ⟨c1, f1, l1⟩ := cells_of_block hP.ptr
    obtain ⟨c2, f2, l2⟩ := cells_of_block hv1
    have HF' := Lib.hid hF
    have HV := Lib.hid (And.intro hv1 hv2)
    have HL := Lib.hid (truthsF_count HSS.out [])
    clear hF hP hv1 hv2 hv3
    by_cases hn : (truthsF f []).length = 0
    · have hn' : ((((truthsF f []).length : Nat) : Int) == 0) = true := by simpa using hn
      have hE11 : askFErr f true = 11 := by rw [HE.out, if_pos (by simpa using hn)]
      have HE11 := Lib.hid hE11
      clear hE11 hn
      gi_wp2_with fail
      refine ⟨by simp, .inl ⟨_, _, rfl, run_takeDeferred hD, ?_⟩⟩
      exact ⟨.tuple #[.pointer none, .int .i64 11], by simp [results, Try.results41, go_sem], (HF'.out.put (Obj.deferred none) (by omega)).ext, .inl ⟨by rw [HE11.out]; simp, by rw [HE11.out]⟩⟩
    · have hn' : ((((truthsF f []).length : Nat) : Int) == 0) = false := by simpa using hn
      have hE0 : askFErr f true = 0 := by rw [HE.out, if_neg (by simpa using hn)]
      have HE0 := Lib.hid hE0
      clear hE0 hn
      gi_wp2_with fail
      refine ⟨by simp, .inl ⟨_, _, rfl, run_takeDeferred hD, ?_⟩⟩
      refine ⟨.tuple #[.pointer (some ⟨B, 0, none⟩), .int .i64 0], by simp [results, Try.results41, go_sem], (HF'.out.put (Obj.deferred none) (by omega)).ext, .inr ⟨HE0.out, B, .slice vo (truthsF f []).length vc, rfl, by omega, ?_, HT'.out _ (HF'.out.put (Obj.deferred none) (by omega)).ext, ?_⟩⟩
      · exact (World.putObj_heap_other (by omega)).trans HV.out.1
      · exact SlAt.of_owns (owns_keep HV.out.2 fun g hg => World.putObj_heap_other (by have := (owns_ge HV.out.2 g hg).1; omega))
  case hstop => rintro cd Ms W h; exact h.elim

end Go.Proofs.Ytdjgikcnmokjkaa

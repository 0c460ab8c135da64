/-
  Contracts of package wage, third part: a ledger at work.
-/
import Derived.WalkKit
import Derived.WalkLawsBesides
import Derived.WalkSpells
import Derived.Outline
import Derived.Handy
import Derived.KernelRfl
import Derived.Lib.Hide
import Derived.Test.YtdjgikcnmokjkaaQB
namespace Go.Proofs.Ytdjgikcnmokjkaa
open Go.RowKit Go.RG Go.SL Go.Shelf Cou Go.TB
set_option maxHeartbeats 400000
set_option maxRecDepth 10000
attribute [local go_sem] Oper.semAt_some

theorem tDues : SliceT Try.prog 123 107 (.agg #[iv 0, iv 0, iv 0]) 3 24 := ⟨Try.underlying123, by kernel_rfl, rfl, by omega⟩

/-- The dues in the first truths, each once in a row. -/
def duesTo (l : LedgerD) (k : Nat) : List (List Int) := ((truthsF l.field []).take k).foldl (fun acc t => snocD acc (duesV l.rate t)) []
def duesT (l : LedgerD) : List (List Int) := duesTo l (truthsF l.field []).length
theorem duesTo_succ {l : LedgerD} {k : Nat} {x : List Int} (hx : (truthsF l.field [])[k]? = some x) : duesTo l (k + 1) = snocD (duesTo l k) (duesV l.rate x) := by
  obtain ⟨hk, rfl⟩ := List.getElem?_eq_some_iff.1 hx
  unfold duesTo
  rw [List.take_succ_eq_append_getElem hk, List.foldl_append]
  rfl
theorem duesTo_three (l : LedgerD) (k : Nat) : ∀ y ∈ duesTo l k, y.length = 3 := fun y hy => by
  unfold duesTo at hy
  rw [mem_fold] at hy
  rcases hy with h | ⟨t, _, rfl⟩
  · cases h
  · exact duesV_len _ _
theorem duesTo_len (l : LedgerD) : ∀ k, (duesTo l k).length ≤ k := by
  intro k
  unfold duesTo
  have : ∀ (ts : List (List Int)) (acc : List (List Int)), (ts.foldl (fun acc t => snocD acc (duesV l.rate t)) acc).length ≤ acc.length + ts.length := by
    intro ts
    induction ts with
    | nil => intro acc; simp
    | cons t ts ih =>
      intro acc
      have h1 := ih (snocD acc (duesV l.rate t))
      have h2 := snocD_len acc (duesV l.rate t)
      simp only [List.foldl_cons, List.length_cons]
      omega
  have h := this ((truthsF l.field []).take k) []
  simp only [List.length_nil, Nat.zero_add, List.length_take] at h
  omega
/-- The dues in all truths, and no others. -/
theorem mem_duesT {l : LedgerD} {d : List Int} : d ∈ duesT l ↔ ∃ t ∈ truthsF l.field [], d = duesV l.rate t := by
  unfold duesT duesTo
  rw [List.take_length, mem_fold]
  simp

abbrev wwcells (l : LedgerD) (tv nv v : Value) (mb : Nat) : Array Value := #[iv l.field.rows, iv l.field.weeders, iv l.field.left.1, iv l.field.left.2, tv, iv l.rate, iv l.box.1, iv l.box.2, nv, v, .map (some mb)]

/-- work's own blocks: two boxes of the ledger, the table, the ledger at work, the pointer to it. -/
structure WoSt (B : Nat) (l : LedgerD) (tv nv : Value) (ls : List (List Int)) (Ms : List Nat) (W : World) : Prop where
  b0 : W.heap[B]? = some (.cells (lcells l tv nv) 41 (0, 0))
  tab : W.heap[B + 1]? = some (.map #[] 0)
  work : ∃ v, W.heap[B + 2]? = some (.cells (wwcells l tv nv v (B + 1)) 126 (0, 0)) ∧ W.ownsRow (B + 7) 107 3 v ls.length (ls.flatMap intCells) ∧ ∀ g, v.ownBlock = some g → g ∉ Ms ∧ g < W.heap.size
  ptr : W.heap[B + 3]? = some (.cells #[.pointer (some ⟨B + 2, 0, none⟩)] 116 (0, 0))
  b4 : W.heap[B + 4]? = some (.cells (lcells l tv nv) 41 (0, 0))

theorem WoSt.kept {B : Nat} {l : LedgerD} {tv nv : Value} {ls : List (List Int)} {Ms Ms' : List Nat} {W W' : World} (h : WoSt B l tv nv ls Ms W) (hs : W.heap.size ≤ W'.heap.size) (hk : ∀ b, B ≤ b → b < B + 5 → W'.heap[b]? = W.heap[b]?)
    (ho : ∀ g, B + 7 ≤ g → g < W.heap.size → g ∉ Ms → W'.heap[g]? = W.heap[g]?) (hM : ∀ m ∈ Ms', m ∈ Ms ∨ (W.heap.size ≤ m ∧ m < W'.heap.size)) : WoSt B l tv nv ls Ms' W' := by
  obtain ⟨v, h1, h2, h3⟩ := h.work
  refine ⟨(hk _ (by omega) (by omega)).trans h.b0, (hk _ (by omega) (by omega)).trans h.tab, ⟨v, (hk _ (by omega) (by omega)).trans h1, owns_keep h2 fun g hg => ho g (owns_ge h2 g hg).1 (owns_ge h2 g hg).2 (h3 g hg).1, fun g hg => ⟨fun hm => ?_, by have := (h3 g hg).2; omega⟩⟩,
    (hk _ (by omega) (by omega)).trans h.ptr, (hk _ (by omega) (by omega)).trans h.b4⟩
  rcases hM g hm with h4 | h4
  · exact (h3 g hg).1 h4
  · have := (h3 g hg).2; omega

/-- A ledger at work, with the dues in all truths, and the table of what can have been paid. -/
structure LwAt (W : World) (wb mb : Nat) (l : LedgerD) (tv nv v : Value) (ls : List (List Int)) : Prop where
  cells : W.heap[wb]? = some (.cells (wwcells l tv nv v mb) 126 (0, 0))
  tal : TalliesAt W tv l.field.tallies
  notes : TriplesAt W nv l.notes
  truth : SlAt 3 W v ls.length (ls.flatMap intCells)

def WorkPostL (l : LedgerD) (tv nv : Value) (w : World) (e : Ending) (W : World) : Prop :=
  ∃ (wb mb : Nat) (v : Value), e = .returned (.pointer (some ⟨wb, 0, none⟩)) ∧ w.heap.size ≤ wb ∧ w.heap.size ≤ mb ∧ W.heap[mb]? = some (.map #[] 0) ∧ LwAt W wb mb l tv nv v (duesT l) ∧ Below w.heap.size w W

set_option maxHeartbeats 4000000 in
theorem gwork_any (l : LedgerD) (tv nv : Value) (hf : faultF l.field = 0) (h0 : 0 ≤ l.rate) (h1 : l.rate ≤ 50) (w : World) (ht : TalliesAt w tv l.field.tallies) (hn : TriplesAt w nv l.notes) :
    Calls Try.prog 95 #[lv l tv nv] w (WorkPostL l tv nv w) := by
  obtain ⟨ot, ct, rfl⟩ := ht.open
  obtain ⟨on, cn, rfl⟩ := hn.open
  have hS := soundF_of hf
  have hr0 := hS.rows0
  have hr7 := hS.rows1
  have hw3 := hS.weed1
  have hmm := @run_makeMap Try.prog
  have HF := Lib.hid hf
  have HS := Lib.hid hS
  have HT' : Hid (∀ W, Below w.heap.size w W → TalliesAt W (.slice ot l.field.tallies.length ct) l.field.tallies) := Lib.hid (fun W hb => ht.below hb (Nat.le_refl _))
  have HN' : Hid (∀ W, Below w.heap.size w W → TriplesAt W (.slice on l.notes.length cn) l.notes) := Lib.hid (fun W hb => hn.below hb (Nat.le_refl _))
  clear ht hn hf hS
  obtain ⟨tv, htv⟩ : ∃ tv, Value.slice ot l.field.tallies.length ct = tv := ⟨_, rfl⟩
  obtain ⟨nv, hnv⟩ : ∃ nv, Value.slice on l.notes.length cn = nv := ⟨_, rfl⟩
  rw [htv] at HT' ⊢
  rw [hnv] at HN' ⊢
  refine (callsIn_wide (n := 0)).1 ?_
  refine callsIn_of_wp_marks Try.func95 rfl trivial ?_
  simp only [Try.ntmps95, List.size_toArray, List.length_cons, List.length_nil, Nat.reduceAdd, Nat.reduceSub, Array.replicate_succ, Array.replicate_zero, List.push_toArray, List.append_toArray, List.nil_append, List.cons_append]
  gi_wp2_with fail
  refine (callsIn_wide.2 (rows_any l tv nv _)).mono ?_
  rintro e w1 ⟨rfl, rfl⟩
  gi_wp2_with fail
  obtain ⟨B, hBdef⟩ : ∃ B, w.heap.size = B := ⟨_, rfl⟩
  rw [hBdef]
  obtain ⟨w4, hw4⟩ : ∃ w4, (((((w.alloc (.cells (lcells l tv nv) 41)).alloc (.map #[] 0)).alloc (.cells #[iv l.field.rows, iv l.field.weeders, iv l.field.left.1, iv l.field.left.2, tv, iv l.rate, iv l.box.1, iv l.box.2, nv, .slice none 0 0, .map (some (B + 1))] 126)).alloc (.cells #[.pointer (some ⟨B + 1 + 1, 0, none⟩)] 116)).alloc (.cells (lcells l tv nv) 41)) = w4 := ⟨_, rfl⟩
  have hsz4 : w4.heap.size = B + 5 := by rw [← hw4]; simp; omega
  have HB4 : Hid (Below w.heap.size w w4) := Lib.hid (by rw [← hw4]; exact (by repeat (first | exact Below.refl _ _ | assumption | refine bgo ?_ (by assumption) | refine bgoAlloc ?_ _ | refine bgoDrew ?_ | refine bgoSet ?_ (by simp; omega) _)))
  have HA4 : Hid (WoSt B l tv nv [] [] w4) := Lib.hid (by
    rw [← hw4]
    refine ⟨?_, ?_, ⟨.slice none 0 0, ?_, ⟨rfl, .inl ⟨rfl, rfl⟩⟩, fun g hg => by cases hg⟩, ?_, ?_⟩
    · rw [← hBdef]; exact (Below.heap_alloc _ _ _ (by simp; omega)).trans ((Below.heap_alloc _ _ _ (by simp; omega)).trans ((Below.heap_alloc _ _ _ (by simp; omega)).trans ((Below.heap_alloc _ _ _ (by simp)).trans (heap_new0 _ _))))
    · rw [← hBdef]; exact (Below.heap_alloc _ _ _ (by simp)).trans ((Below.heap_alloc _ _ _ (by simp)).trans ((Below.heap_alloc _ _ _ (by simp)).trans (heap_new1 _ _ _)))
    · rw [← hBdef]; exact (Below.heap_alloc _ _ _ (by simp)).trans ((Below.heap_alloc _ _ _ (by simp)).trans (heap_new2 _ _ _ _))
    · rw [← hBdef]; exact (Below.heap_alloc _ _ _ (by simp)).trans (heap_new3 _ _ _ _ _)
    · have := heap_new0 ((((w.alloc (.cells (lcells l tv nv) 41)).alloc (.map #[] 0)).alloc (.cells #[iv l.field.rows, iv l.field.weeders, iv l.field.left.1, iv l.field.left.2, tv, iv l.rate, iv l.box.1, iv l.box.2, nv, .slice none 0 0, .map (some (B + 1))] 126)).alloc (.cells #[.pointer (some ⟨B + 1 + 1, 0, none⟩)] 116)) (.cells (lcells l tv nv) 41)
      simp only [World.size_alloc, hBdef] at this
      exact this)
  rw [hw4]
  clear hw4 hmm
  have hOs : ∀ b, b ∈ [B, B + 1, B + 2, B + 3, B + 4, B + 5, B + 6] ↔ (B ≤ b ∧ b < B + 7) := fun b => by simp; omega
  obtain ⟨Os, hOsd⟩ : ∃ Os, [B, B + 1, B + 2, B + 3, B + 4, B + 5, B + 6] = Os := ⟨_, rfl⟩
  rw [hOsd] at hOs
  clear hOsd
  have hcnt := truthsF_count HS.out []
  refine wpIn_rangeC (rows_seq l HF.out tv nv (B + 4)) rfl (enters_of Try.func119 (by kernel_rfl) rfl) rfl (by simp)
    (fun Ms k W => FrB w Os Ms W ∧ WoSt B l tv nv (duesTo l k) Ms W)
    (fun _ _ _ => False)
    ?hInv ?hInvx ?hI ?hIx ?hIp ?hIxp ?h0
    (fun a Ms k W1 a₁ W => ∃ (x : List Int) (ob : Nat), (truthsF l.field [])[k]? = some x ∧ a₁ = { tmps := (a.tmps.setIfInBounds 12 (.slice (some ⟨ob, 0, none⟩) x.length x.length)).setIfInBounds 4 (.slice (some ⟨ob, 0, none⟩) x.length x.length), defers := [] } ∧
      (FrB w Os Ms W ∧ WoSt B l tv nv (duesTo l k) Ms W) ∧ (ob ∈ Ms ∧ W.heap[ob]? = some (.cells (intCells x).toArray 3 (0, 0))) ∧
      (∀ m ∈ Ms, m ∉ ([] : List Nat) → m < W1.heap.size → W.heap[m]? = W1.heap[m]?) ∧ W1.heap.size ≤ W.heap.size)
    ?hMp ?hassign ?hbody ?hdone ?hstop
  case hInv =>
    rintro Ms k W ⟨hF, hP⟩
    exact ⟨hP.b4, HT'.out W hF.ext⟩
  case hInvx => rintro cd Ms W h; exact h.elim
  case hI =>
    rintro Ms Ms' k Wa Wb ⟨hF, hP⟩ hE hMs _
    exact ⟨(hF.step hE hMs).1, hP.kept hE.size (fun b h1 h2 => (hF.step hE hMs).2 b ((hOs b).2 (by omega))) (fun g h1 h2 h3 => hE.block g h2 h3) hMs⟩
  case hIx => rintro cd Ms Ms' Wa Wb h; exact h.elim
  case hIp =>
    rintro Ms k W r ob ⟨hF, hP⟩ hr
    exact ⟨hF.put ob (by omega), hP.kept (by simp) (fun b h1 h2 => World.putObj_heap_other (by omega)) (fun g h1 h2 h3 => World.putObj_heap_other (by omega)) (fun m hm => .inl hm)⟩
  case hIxp => rintro cd Ms W r ob h; exact h.elim
  case h0 =>
    intro o1 o2
    refine ⟨⟨bgoAlloc (bgoAlloc HB4.out _) _, by simp, by simp, fun b hb => ⟨by simp, by have := (hOs b).1 hb; simp; omega⟩⟩, ?_⟩
    exact HA4.out.kept (by simp; omega) (fun b h1 h2 => (Below.heap_alloc _ _ _ (by simp; omega)).trans (Below.heap_alloc _ _ _ (by omega))) (fun g h1 h2 h3 => by omega) (fun m hm => .inl hm)
  case hMp =>
    rintro Ms k W1 a₁ W obj ⟨x, ob, hx, ha, ⟨hF, hP⟩, ⟨hob, hcb⟩, hk, hs⟩
    have hap := (hF.apart (B + 6) ((hOs _).2 (by omega))).1
    refine ⟨x, ob, hx, ha, ⟨hF.put obj (by omega), hP.kept (by simp) (fun b h1 h2 => World.putObj_heap_other (by omega)) (fun g h1 h2 h3 => World.putObj_heap_other (by omega)) (fun m hm => .inl hm)⟩,
      ⟨hob, (World.putObj_heap_other (fun e => hap (by rw [show B + 6 = ob by omega]; exact hob))).trans hcb⟩,
      fun m hm h0 hml => (World.putObj_heap_other (fun e => hap (by rw [show B + 6 = m by omega]; exact hm))).trans (hk m hm h0 hml), by simpa using hs⟩
  case hassign =>
    rintro Ms k v W hk ⟨hF, hP⟩ ⟨ob, rfl, hcb, hob⟩ hlt
    have hxk : (truthsF l.field [])[k]? = some (truthsF l.field [])[k] := List.getElem?_eq_getElem hk
    generalize (truthsF l.field [])[k] = x at *
    gi_wp2
    exact ⟨⟨x, ob, hxk, rfl, ⟨hF, hP⟩, ⟨hob, hcb⟩, fun _ _ _ _ => trivial, Nat.le_refl _⟩, trivial, trivial⟩
  case hbody =>
    rintro Ms k W1 a₁ W busy hk ⟨x, ob, hx, rfl, ⟨hF, hP⟩, ⟨hob, hcb⟩, hkeep, hsz⟩ hrec hD
    simp only [List.setIfInBounds_toArray, List.set_cons_succ, List.set_cons_zero]
    have hxl := truthsF_len (List.mem_of_getElem? hx)
    have hxm := (truthsF_mem (List.mem_of_getElem? hx)).1
    have hiv : IntsAt W (.slice (some ⟨ob, 0, none⟩) x.length x.length) x := SlAt.of_block (cs := (intCells x).toArray) 1 x.length hcb (by simp [intCells]) (by simp only [maxLen]; omega)
    have hdues := dues_any l tv nv _ x W hiv h0 h1 (by omega) (fun n hn => by
      obtain ⟨i, hi, rfl⟩ := List.getElem_of_mem hn
      have := (mem_allF.1 hxm).2 i (by omega)
      rw [show x.getD i 0 = x[i] from by simp [List.getD, hi]] at this
      omega)
    have hsu := duesTo_succ (l := l) hx
    have hdl := duesV_len l.rate x
    obtain ⟨ys, hys0⟩ : ∃ ys, duesV l.rate x = ys := ⟨_, rfl⟩
    rw [hys0] at hdues hsu hdl
    obtain ⟨y0, y1, y2, hys⟩ := three_of hdl
    have hdues' : Calls Try.prog 56 #[lv l tv nv, .slice (some ⟨ob, 0, none⟩) x.length x.length] W (fun e w' => e = .returned (.agg #[iv y0, iv y1, iv y2]) ∧ Below W.heap.size W w' ∧ W.heap.size < w'.heap.size) := by rw [hys] at hdues; exact hdues
    obtain ⟨c0, f0, l0⟩ := cells_of_block hP.b0
    have hk25 : k ≤ 2500 := by omega
    have hlk := duesTo_len l k
    have h3s := duesTo_three l k
    have HF' := Lib.hid hF
    have HP := Lib.hid hP
    have HDU := Lib.hid hdues'
    have HSU := Lib.hid hsu
    have HK := Lib.hid (And.intro hkeep (And.intro hrec hD))
    have HYS := Lib.hid (And.intro hys hdl)
    have H3 := Lib.hid h3s
    clear hF hP hdues hdues' hsu hdl hys hys0 hkeep hrec hD hx hxm hcb hiv hxl h3s
    generalize duesTo l (k + 1) = ls' at *
    generalize duesTo l k = ls at *
    gi_wp2_with fail
    refine (CallsIn.inRound _ (callsIn_wide.2 HDU.out)).mono ?_
    rintro e w6 ⟨rfl, hb, hgrow⟩
    obtain ⟨W7, hW7⟩ : ∃ W7, w6.alloc (.cells #[iv y0, iv y1, iv y2] 107) = W7 := ⟨_, rfl⟩
    have hB7 : Below W.heap.size W W7 := by rw [← hW7]; exact bgoAlloc hb _
    have hbt7 : W7.heap[w6.heap.size]? = some (.cells #[iv y0, iv y1, iv y2] 107 (0, 0)) := by rw [← hW7]; exact heap_new0 _ _
    have hsz7 : W7.heap.size = w6.heap.size + 1 := by rw [← hW7]; simp
    have hap : ∀ b ∈ Os, b ∉ Ms ∧ b < W.heap.size := HF'.out.apart
    have hin : ∀ b, B ≤ b → b < B + 7 → b ∈ Os := fun b h1 h2 => (hOs b).2 (by omega)
    have hF7 := (HF'.out.step (Ext.of_below hB7) (fun m hm => .inl hm)).1
    have hP7 : WoSt B l tv nv ls Ms W7 := HP.out.kept hB7.size (fun b h1 h2 => hB7.block b (hap b (hin b h1 (by omega))).2) (fun g h1 h2 h3 => hB7.block g h2) (fun m hm => .inl hm)
    have hrec7 : W7.heap[w4.heap.size + 1]? = some (.loop busy) := (hB7.block _ (Array.getElem?_eq_some_iff.1 HK.out.2.1).1).trans HK.out.2.1
    have hD7 : W7.heap[w4.heap.size]? = some (.deferred (some [])) := (hB7.block _ (Array.getElem?_eq_some_iff.1 HK.out.2.2).1).trans HK.out.2.2
    have hkp7 : ∀ m ∈ Ms, m ∉ ([] : List Nat) → m < W1.heap.size → W7.heap[m]? = W1.heap[m]? := fun m hm h0 hml => (hB7.block m (by omega)).trans (HK.out.1 m hm h0 hml)
    obtain ⟨s0, hs0⟩ : ∃ s0, W.heap.size = s0 := ⟨_, rfl⟩
    have HS0 : Hid (B + 7 ≤ s0 ∧ s0 ∉ Ms ∧ s0 < w6.heap.size) := Lib.hid ⟨by have := (hap (B + 6) (hin _ (by omega) (by omega))).2; omega, fun hm => by have := HF'.out.bnd s0 hm; omega, by omega⟩
    obtain ⟨v, hv1o, hv2o, hv3o⟩ := HP.out.work
    have hv1 := (hB7.block _ (Array.getElem?_eq_some_iff.1 hv1o).1).trans hv1o
    have hv2 := owns_keep hv2o fun g hg => hB7.block g (hv3o g hg).2
    have hv3 : ∀ g, v.ownBlock = some g → g ∉ Ms ∧ g < W7.heap.size := fun g hg => ⟨(hv3o g hg).1, by have := (hv3o g hg).2; have := hB7.size; omega⟩
    have HVO : Hid (∀ g, v.ownBlock = some g → g < s0) := Lib.hid (fun g hg => by have := (hv3o g hg).2; omega)
    clear hv1o hv2o hv3o
    obtain ⟨vo, vc, rfl⟩ := owns_slice hv2
    have hs1 : W1.heap.size ≤ W7.heap.size := by have := hB7.size; omega
    have HF7 := Lib.hid hF7
    have HP7 := Lib.hid hP7
    have HV := Lib.hid (And.intro hv1 (And.intro hv2 hv3))
    have HK7 := Lib.hid (And.intro hkp7 (And.intro hrec7 hD7))
    have HBT := Lib.hid hbt7
    have hs06 : s0 < w6.heap.size := by omega
    have hap' : ∀ b ∈ Os, b ∉ Ms ∧ b < W7.heap.size := fun b hb => ⟨(hap b hb).1, by have := (hap b hb).2; omega⟩
    clear hap
    have hap := hap'
    clear hap'
    obtain ⟨c1, f1, q1⟩ := cells_of_block (show W7.heap[B + 1 + 1 + 1]? = some (.cells #[.pointer (some ⟨B + 1 + 1, 0, none⟩)] 116 (0, 0)) from hP7.ptr)
    obtain ⟨c2, f2, q2⟩ := cells_of_block (show W7.heap[B + 1 + 1]? = some (.cells (wwcells l tv nv (.slice vo ls.length vc) (B + 1)) 126 (0, 0)) from hv1)
    obtain ⟨c3, f3, q3⟩ := cells_of_block hbt7
    clear hb hgrow c0 f0 l0 hF7 hP7 hv1 hv2 hv3 hkp7 hrec7 hD7 hbt7 HF' HP HK hB7 hs0
    gi_wp2_with fail
    (try rw [hW7])
    clear hW7
    have HSZ7 := Lib.hid hsz7
    clear hsz7
    rcases (List.eq_nil_or_concat ls).imp id (fun ⟨A, z, e⟩ => (⟨A, z, e.trans (List.concat_eq_append)⟩ : ∃ A z, ls = A ++ [z])) with rfl | ⟨A, z, rfl⟩
    · simp only [List.length_nil] at c2 HV HVO
      have HDD : Hid (snocD [] ys = [] ++ [ys]) := Lib.hid (by simp [snocD])
      refine wpIn_region_rgR 22 [] none [] (by kernel_rfl) (by kernel_rfl) (by kernel_rfl) ?_
      simp only [List.take_succ_cons, List.take_zero, List.drop_succ_cons, List.drop_zero]
      repeat (first | (refine tree_det (by rfl) _ (by rfl) (fun W hW => by go_simp; (try simp (disch := omega) only [IntWalk.i64_in]); try rfl) ?_; simp only [Act.put, List.setIfInBounds_toArray, List.set_cons_succ, List.set_cons_zero]) | (refine tree_skip (by rfl) (by rfl) ?_; simp only [Act.put, List.setIfInBounds_toArray, List.set_cons_succ, List.set_cons_zero]))
      intro W hE hF
      obtain ⟨hc, hf⟩ := bcell hE.below
      have hzE := hE.size
      (try simp only [World.size_alloc] at hzE)
      have hE7' : Ext [] W7 W := hE
      have hP8 : WoSt B l tv nv ([]) Ms W := HP7.out.kept hE7'.size (fun b h1 h2 => hE7'.block b (by have := (hap b (hin b h1 (by omega))).2; omega) (by simp)) (fun g h1 h2 h3 => hE7'.block g h2 (by simp)) (fun m hm => .inl hm)
      have hbt8 := (hE7'.block _ (by omega) (by simp)).trans HBT.out
      obtain ⟨v8, hv81, hv82, hv83⟩ := hP8.work
      have hv8e : v8 = .slice (vo) (0) vc := by
        have h4 := (hE7'.block _ q2 (by simp)).trans HV.out.1
        rw [hv81] at h4
        simp only [Option.some.injEq, Obj.cells.injEq, and_true, Array.mk.injEq, List.cons.injEq, true_and] at h4
        exact h4
      rw [hv8e] at hv81 hv82 hv83
      clear hv8e
      (try simp only [List.length_nil] at hv82)
      (try simp only [List.length_append, List.length_cons, List.length_nil, Nat.zero_add] at hv82)
      obtain ⟨p1, p2, p3⟩ := cells_of_block (show W.heap[B + 1 + 1 + 1]? = some (.cells #[.pointer (some ⟨B + 1 + 1, 0, none⟩)] 116 (0, 0)) from hP8.ptr)
      obtain ⟨p4, p5, p6⟩ := cells_of_block (show W.heap[B + 1 + 1]? = some (.cells (wwcells l tv nv (.slice (vo) (0) vc) (B + 1)) 126 (0, 0)) from hv81)
      obtain ⟨p7, p8, p9⟩ := cells_of_block hbt8
      have hs78 := hE7'.size
      have HP8 := Lib.hid hP8
      have HV8 := Lib.hid (And.intro hv81 (And.intro hv82 hv83))
      have HE8 := Lib.hid hE7'
      clear hE hF hc hf hE7' hP8 hv81 hv82 hv83 hbt8 c1 f1 q1 c2 f2 q2 c3 f3 q3 hzE
      obtain ⟨gx, hgx, hgx1, hgx2, hgx3, hgx4⟩ : ∃ gx, (∀ g, (Value.slice (vo) (0) vc).ownBlock = some g → g = gx) ∧ B + 7 ≤ gx ∧ gx < W.heap.size ∧ gx ∉ Ms ∧ gx ≠ w6.heap.size := by
        cases hob2 : (Value.slice (vo) (0) vc).ownBlock with
        | none => exact ⟨s0, (fun g hg => by cases hg), HS0.out.1, by omega, HS0.out.2.1, by omega⟩
        | some g =>
          have h1 := owns_ge HV8.out.2.1 g hob2
          have h2 := HV8.out.2.2 g hob2
          exact ⟨g, (fun g' hg => by cases hg; rfl), h1.1, h1.2, h2.1, fun e => by have := HVO.out g hob2; omega⟩
      have HG := Lib.hid hgx
      clear hgx
      have z1 : gx ≠ B + 1 + 1 := by omega
      have z2 : gx ≠ B + 1 + 1 + 1 := by omega
      have z1' : B + 1 + 1 ≠ gx := by omega
      have z2' : B + 1 + 1 + 1 ≠ gx := by omega
      have z3' : w6.heap.size ≠ gx := by omega
      gi_wp2_with fail
      refine wpIn_region_rgR 8 [gx] (some 7) [(6, Spec.slice W.heap.size #[iv y0, iv y1, iv y2] 107 1), (7, ⟨fun _ v => ∃ o c, v = .slice o (0 + 1) c, fun _ v Wx => Wx.ownsRow (B + 7) 107 3 v (0 + 1) ((([]) ++ [ys]).flatMap intCells) ∧ (∀ g, v.ownBlock = some g → g = gx ∨ W.heap.size ≤ g)⟩)] (by kernel_rfl) (by kernel_rfl) (by kernel_rfl) ?_
      simp only [List.take_succ_cons, List.take_zero, List.drop_succ_cons, List.drop_zero]
      repeat (first | (refine tree_det (by rfl) _ (by rfl) (fun W hW => by go_simp; (try simp (disch := omega) only [IntWalk.i64_in]); try rfl) ?_; simp only [Act.put, List.setIfInBounds_toArray, List.set_cons_succ, List.set_cons_zero]) | (refine tree_skip (by rfl) (by rfl) ?_; simp only [Act.put, List.setIfInBounds_toArray, List.set_cons_succ, List.set_cons_zero]))
      refine tree_slice W.heap.size _ _ 1 (by rfl) (Nat.le_refl _) (by rfl) (by simpa using hgx2) (by simp) (fun W hW => by go_simp; try rfl) (fun b6 => ?_)
      simp only [Act.put, List.setIfInBounds_toArray, List.set_cons_succ, List.set_cons_zero]
      refine tree_some _ (by rfl) (by rfl) (by exact ⟨.slice none (0 + 1) 0, none, 0, rfl⟩) (fun Wa hE hF => ?_) (fun v Wa Wb ho hE => ?_) (fun v hv => ?_)
      · have hE' : Ext [] W Wa := hE
        obtain ⟨b', hb', hge, hcc⟩ := hF _ (List.Mem.head _) (by kernel_rfl)
        cases hb'
        have hown6 := owns_ext (Ms := []) HV8.out.2.1 hE' (by simp)
        have hsrc : SlAt 3 Wa (.slice (some ⟨b6, 0, none⟩) 1 1) 1 (intCells ys) := by
          rw [HYS.out.1]
          exact SlAt.of_block 3 1 hcc rfl (by decide)
        refine Does.mono (does_append_at tDues (by rfl) (by rfl) hown6 (by rfl) hsrc (one_ints _) (by omega) (by omega) (by have := hE'.size; omega)) ?_
        rintro v' Wc ⟨ho, hgr, hcase⟩
        refine ⟨owns_slice ho, ⟨?_, fun g hg => ?_⟩, ⟨hgr.os, hgr.tape, hgr.output, hgr.size, fun b hb hn => hgr.block b hb (fun e => hn (by rw [HG.out b e.symm]; simp))⟩⟩
        · rw [List.flatMap_append]
          simpa using ho
        · rcases hcase with h1 | h1
          · exact .inl (HG.out g (by rw [← h1, hg]))
          · rw [hg] at h1; injection h1 with h1; exact .inr (by have := hE'.size; omega)
      · exact ⟨owns_ext (Ms := []) ho.1 hE (by simp), ho.2⟩
      obtain ⟨o7, c7, rfl⟩ := hv
      simp only [Act.put, List.setIfInBounds_toArray, List.set_cons_succ, List.set_cons_zero]
      intro W9 hE hF
      have hE' : Ext [gx] W W9 := hE
      obtain ⟨ho9, hg9⟩ := hF _ (List.Mem.head _)
      have hwk9 : W9.heap[B + 1 + 1]? = some (.cells (wwcells l tv nv (.slice (vo) (0) vc) (B + 1)) 126 (0, 0)) := (hE'.block _ p6 (by simpa using z1')).trans HV8.out.1
      obtain ⟨c9, f9, l9⟩ := cells_of_block hwk9
      have HE9 := Lib.hid hE'
      have HO9 := Lib.hid (And.intro ho9 (And.intro hg9 hwk9))
      clear hE hF hE' ho9 hg9 p1 p2 p4 p5 p7 p8 hwk9
      gi_wp2_with fail
      obtain ⟨v', hv'⟩ : ∃ v', Value.slice o7 (0 + 1) c7 = v' := ⟨_, rfl⟩
      rw [hv'] at HO9 ⊢
      have hszX : (W9.setCell ⟨B + 1 + 1, 9, none⟩ v').heap.size = W9.heap.size := by simp [World.setCell]
      have hs9 := HE9.out.size
      have hks : ∀ b, b < W.heap.size → b ≠ gx → b ≠ B + 1 + 1 → (W9.setCell ⟨B + 1 + 1, 9, none⟩ v').heap[b]? = W.heap[b]? := fun b hb h1 h2 =>
        (Below.heap_setCell _ _ _ _ h2).trans (HE9.out.block b hb (by simpa using h1))
      have hk7 : ∀ b, b < W7.heap.size → b ≠ gx → b ≠ B + 1 + 1 → (W9.setCell ⟨B + 1 + 1, 9, none⟩ v').heap[b]? = W7.heap[b]? := fun b hb h1 h2 => (hks b (by omega) h1 h2).trans (HE8.out.block b hb (by simp))
      have hFB : FrB w Os Ms (W9.setCell ⟨B + 1 + 1, 9, none⟩ v') := HF7.out.own (HF7.out.ext.trans ⟨HE9.out.os.trans HE8.out.os, HE9.out.tape.trans HE8.out.tape, HE9.out.output.trans HE8.out.output, by rw [hszX]; omega, fun b hb => (Below.heap_setCell _ _ _ _ (by show b ≠ B + 1 + 1; omega)).trans ((HE9.out.block b (by have := HF7.out.ext.size; omega) (by simp; omega)).trans (HE8.out.block b (by have := HF7.out.ext.size; omega) (by simp)))⟩) (by rw [hszX]; omega)
      have hlen1 : (([]) ++ [ys]).length = 0 + 1 := by simp
      refine ⟨⟨?_, ?_, fun m hm h0 hml => ?_, by rw [hszX]; omega⟩, hFB, ?_⟩
      · exact (hk7 _ (by have := (hap _ (hin (w4.heap.size + 1) (by omega) (by omega))).2; omega) (by omega) (by omega)).trans HK7.out.2.1
      · exact (hk7 _ (by have := (hap _ (hin w4.heap.size (by omega) (by omega))).2; omega) (by omega) (by omega)).trans HK7.out.2.2
      · exact (hk7 m (HF7.out.bnd m hm) (fun e => hgx3 (e ▸ hm)) (fun e => (hap (B + 1 + 1) (hin _ (by omega) (by omega))).1 (e ▸ hm))).trans (HK7.out.1 m hm h0 hml)
      rw [HSU.out, HDD.out]
      refine ⟨?_, ?_, ⟨v', set_block HO9.out.2.2 _, hlen1.symm ▸ owns_keep HO9.out.1 fun g hg => Below.heap_setCell _ _ _ _ (by have := (owns_ge HO9.out.1 g hg).1; show g ≠ B + 1 + 1; omega), fun g hg => ⟨fun hm => ?_, by rw [hszX]; exact (owns_ge HO9.out.1 g hg).2⟩⟩, ?_, ?_⟩
      · exact (hks _ (by have := (hap _ (hin B (by omega) (by omega))).2; omega) (by omega) (by omega)).trans HP8.out.b0
      · exact (hks _ (by have := (hap _ (hin (B + 1) (by omega) (by omega))).2; omega) (by omega) (by omega)).trans HP8.out.tab
      · rcases HO9.out.2.1 g hg with h1 | h1
        · exact hgx3 (h1 ▸ hm)
        · have := HF7.out.bnd g hm; omega
      · exact (hks _ (by have := (hap _ (hin (B + 3) (by omega) (by omega))).2; omega) (by omega) (by omega)).trans HP8.out.ptr
      · exact (hks _ (by have := (hap _ (hin (B + 4) (by omega) (by omega))).2; omega) (by omega) (by omega)).trans HP8.out.b4
    · have hz3 := H3.out z (by simp)
      obtain ⟨gb, gc, hvv, hgb, hglt, hrng⟩ := owns_last (A := A) (z := z) (by simpa using HV.out.2.1) (fun x hx => H3.out x (by simp [hx])) hz3
      have hcap : vo = some ⟨gb, 0, none⟩ := by simp at hvv; exact hvv.1
      subst hcap
      have hzl : (intCells z).length = 3 := by simp [intCells, hz3]
      (try simp only [List.length_append, List.length_cons, List.length_nil, Nat.zero_add] at c2)
      (try simp only [List.length_append, List.length_cons, List.length_nil, Nat.zero_add] at HV)
      (try simp only [List.length_append, List.length_cons, List.length_nil, Nat.zero_add] at HVO)
      (try simp only [List.length_append, List.length_cons, List.length_nil, Nat.zero_add] at hlk)
      have hAI : ((A.length : Int) + 1 == 0) = false := by simp; omega
      have hA0 : ¬ ((A.length : Int) + 1 = 0) := by omega
      have hA1 : ((A.length : Int) + 1).toNat = A.length + 1 := by omega
      have hAm : (A.length : Int) + 1 - 1 = A.length := by omega
      have hy3 : ys.length = 3 := HYS.out.2
      rcases hq : (z == ys) with _ | _
      · have HDD : Hid (snocD (A ++ [z]) ys = (A ++ [z]) ++ [ys]) := Lib.hid (by
          unfold snocD
          rw [if_neg]
          simp only [List.getLast?_append, List.getLast?_singleton]
          intro e
          simp at e
          subst e; simp at hq)
        refine wpIn_region_rgR 22 [] none [] (by kernel_rfl) (by kernel_rfl) (by kernel_rfl) ?_
        simp only [List.take_succ_cons, List.take_zero, List.drop_succ_cons, List.drop_zero]
        repeat (first | (refine tree_det (by rfl) _ (by rfl) (fun W hW => by go_simp; (try simp (disch := omega) only [IntWalk.i64_in]); try rfl) ?_; simp only [Act.put, List.setIfInBounds_toArray, List.set_cons_succ, List.set_cons_zero]) | (refine tree_skip (by rfl) (by rfl) ?_; simp only [Act.put, List.setIfInBounds_toArray, List.set_cons_succ, List.set_cons_zero]))
        refine tree_det (by rfl) (.pointer (some ⟨gb, A.length * 3, none⟩)) (by rfl) (fun W hW => by go_simp; (try simp (disch := omega) only [IntWalk.i64_in]); (try rw [if_pos (by omega)]); (try simp); (try (intro hx; exfalso; omega))) ?_
        simp only [Act.put, List.setIfInBounds_toArray, List.set_cons_succ, List.set_cons_zero]
        refine tree_det (by rfl) (.agg (intCells z).toArray) (by rfl) (fun W hW => exec_load_mid 107 _ (by rfl) gb (A.length * 3) (by rfl) (intCells z) _ (fun j u hj => (hW gb _ hglt (by simp)).trans (hrng j u hj)) Try.underlying107 rfl (by rw [hzl]; kernel_rfl)) ?_
        simp only [Act.put, List.setIfInBounds_toArray, List.set_cons_succ, List.set_cons_zero]
        refine tree_det (by rfl) (.agg #[iv y0, iv y1, iv y2]) (by rfl) (fun W hW => by go_simp; try rfl) ?_
        simp only [Act.put, List.setIfInBounds_toArray, List.set_cons_succ, List.set_cons_zero]
        refine tree_det (by rfl) (.bool true) (by rfl) (fun W hW => (exec_neq_ints 107 3 _ 3 _ _ (by rfl) Try.underlying107 Try.underlying3 (by intro w; go_simp) (by kernel_rfl) z [y0, y1, y2] (by rfl) (by rfl) hz3 (by rfl)).trans (by rw [HYS.out.1] at hq; rw [hq]; rfl)) ?_
        simp only [Act.put, List.setIfInBounds_toArray, List.set_cons_succ, List.set_cons_zero]
        repeat (first | (refine tree_det (by rfl) _ (by rfl) (fun W hW => by go_simp; (try simp (disch := omega) only [IntWalk.i64_in]); try rfl) ?_; simp only [Act.put, List.setIfInBounds_toArray, List.set_cons_succ, List.set_cons_zero]) | (refine tree_skip (by rfl) (by rfl) ?_; simp only [Act.put, List.setIfInBounds_toArray, List.set_cons_succ, List.set_cons_zero]))
        intro W hE hF
        obtain ⟨hc, hf⟩ := bcell hE.below
        have hzE := hE.size
        (try simp only [World.size_alloc] at hzE)
        have hE7' : Ext [] W7 W := hE
        have hP8 : WoSt B l tv nv (A ++ [z]) Ms W := HP7.out.kept hE7'.size (fun b h1 h2 => hE7'.block b (by have := (hap b (hin b h1 (by omega))).2; omega) (by simp)) (fun g h1 h2 h3 => hE7'.block g h2 (by simp)) (fun m hm => .inl hm)
        have hbt8 := (hE7'.block _ (by omega) (by simp)).trans HBT.out
        obtain ⟨v8, hv81, hv82, hv83⟩ := hP8.work
        have hv8e : v8 = .slice ((some ⟨gb, 0, none⟩)) ((A.length + 1)) vc := by
          have h4 := (hE7'.block _ q2 (by simp)).trans HV.out.1
          rw [hv81] at h4
          simp only [Option.some.injEq, Obj.cells.injEq, and_true, Array.mk.injEq, List.cons.injEq, true_and] at h4
          exact h4
        rw [hv8e] at hv81 hv82 hv83
        clear hv8e
        (try simp only [List.length_nil] at hv82)
        (try simp only [List.length_append, List.length_cons, List.length_nil, Nat.zero_add] at hv82)
        obtain ⟨p1, p2, p3⟩ := cells_of_block (show W.heap[B + 1 + 1 + 1]? = some (.cells #[.pointer (some ⟨B + 1 + 1, 0, none⟩)] 116 (0, 0)) from hP8.ptr)
        obtain ⟨p4, p5, p6⟩ := cells_of_block (show W.heap[B + 1 + 1]? = some (.cells (wwcells l tv nv (.slice ((some ⟨gb, 0, none⟩)) ((A.length + 1)) vc) (B + 1)) 126 (0, 0)) from hv81)
        obtain ⟨p7, p8, p9⟩ := cells_of_block hbt8
        have hs78 := hE7'.size
        have HP8 := Lib.hid hP8
        have HV8 := Lib.hid (And.intro hv81 (And.intro hv82 hv83))
        have HE8 := Lib.hid hE7'
        clear hE hF hc hf hE7' hP8 hv81 hv82 hv83 hbt8 c1 f1 q1 c2 f2 q2 c3 f3 q3 hzE
        obtain ⟨gx, hgx, hgx1, hgx2, hgx3, hgx4⟩ : ∃ gx, (∀ g, (Value.slice ((some ⟨gb, 0, none⟩)) ((A.length + 1)) vc).ownBlock = some g → g = gx) ∧ B + 7 ≤ gx ∧ gx < W.heap.size ∧ gx ∉ Ms ∧ gx ≠ w6.heap.size := by
          cases hob2 : (Value.slice ((some ⟨gb, 0, none⟩)) ((A.length + 1)) vc).ownBlock with
          | none => exact ⟨s0, (fun g hg => by cases hg), HS0.out.1, by omega, HS0.out.2.1, by omega⟩
          | some g =>
            have h1 := owns_ge HV8.out.2.1 g hob2
            have h2 := HV8.out.2.2 g hob2
            exact ⟨g, (fun g' hg => by cases hg; rfl), h1.1, h1.2, h2.1, fun e => by have := HVO.out g hob2; omega⟩
        have HG := Lib.hid hgx
        clear hgx
        have z1 : gx ≠ B + 1 + 1 := by omega
        have z2 : gx ≠ B + 1 + 1 + 1 := by omega
        have z1' : B + 1 + 1 ≠ gx := by omega
        have z2' : B + 1 + 1 + 1 ≠ gx := by omega
        have z3' : w6.heap.size ≠ gx := by omega
        gi_wp2_with fail
        refine wpIn_region_rgR 8 [gx] (some 7) [(6, Spec.slice W.heap.size #[iv y0, iv y1, iv y2] 107 1), (7, ⟨fun _ v => ∃ o c, v = .slice o ((A.length + 1) + 1) c, fun _ v Wx => Wx.ownsRow (B + 7) 107 3 v ((A.length + 1) + 1) (((A ++ [z]) ++ [ys]).flatMap intCells) ∧ (∀ g, v.ownBlock = some g → g = gx ∨ W.heap.size ≤ g)⟩)] (by kernel_rfl) (by kernel_rfl) (by kernel_rfl) ?_
        simp only [List.take_succ_cons, List.take_zero, List.drop_succ_cons, List.drop_zero]
        repeat (first | (refine tree_det (by rfl) _ (by rfl) (fun W hW => by go_simp; (try simp (disch := omega) only [IntWalk.i64_in]); try rfl) ?_; simp only [Act.put, List.setIfInBounds_toArray, List.set_cons_succ, List.set_cons_zero]) | (refine tree_skip (by rfl) (by rfl) ?_; simp only [Act.put, List.setIfInBounds_toArray, List.set_cons_succ, List.set_cons_zero]))
        refine tree_slice W.heap.size _ _ 1 (by rfl) (Nat.le_refl _) (by rfl) (by simpa using hgx2) (by simp) (fun W hW => by go_simp; try rfl) (fun b6 => ?_)
        simp only [Act.put, List.setIfInBounds_toArray, List.set_cons_succ, List.set_cons_zero]
        refine tree_some _ (by rfl) (by rfl) (by exact ⟨.slice none ((A.length + 1) + 1) 0, none, 0, rfl⟩) (fun Wa hE hF => ?_) (fun v Wa Wb ho hE => ?_) (fun v hv => ?_)
        · have hE' : Ext [] W Wa := hE
          obtain ⟨b', hb', hge, hcc⟩ := hF _ (List.Mem.head _) (by kernel_rfl)
          cases hb'
          have hown6 := owns_ext (Ms := []) HV8.out.2.1 hE' (by simp)
          have hsrc : SlAt 3 Wa (.slice (some ⟨b6, 0, none⟩) 1 1) 1 (intCells ys) := by
            rw [HYS.out.1]
            exact SlAt.of_block 3 1 hcc rfl (by decide)
          refine Does.mono (does_append_at tDues (by rfl) (by rfl) hown6 (by rfl) hsrc (one_ints _) (by omega) (by omega) (by have := hE'.size; omega)) ?_
          rintro v' Wc ⟨ho, hgr, hcase⟩
          refine ⟨owns_slice ho, ⟨?_, fun g hg => ?_⟩, ⟨hgr.os, hgr.tape, hgr.output, hgr.size, fun b hb hn => hgr.block b hb (fun e => hn (by rw [HG.out b e.symm]; simp))⟩⟩
          · rw [List.flatMap_append]
            simpa using ho
          · rcases hcase with h1 | h1
            · exact .inl (HG.out g (by rw [← h1, hg]))
            · rw [hg] at h1; injection h1 with h1; exact .inr (by have := hE'.size; omega)
        · exact ⟨owns_ext (Ms := []) ho.1 hE (by simp), ho.2⟩
        obtain ⟨o7, c7, rfl⟩ := hv
        simp only [Act.put, List.setIfInBounds_toArray, List.set_cons_succ, List.set_cons_zero]
        intro W9 hE hF
        have hE' : Ext [gx] W W9 := hE
        obtain ⟨ho9, hg9⟩ := hF _ (List.Mem.head _)
        have hwk9 : W9.heap[B + 1 + 1]? = some (.cells (wwcells l tv nv (.slice ((some ⟨gb, 0, none⟩)) ((A.length + 1)) vc) (B + 1)) 126 (0, 0)) := (hE'.block _ p6 (by simpa using z1')).trans HV8.out.1
        obtain ⟨c9, f9, l9⟩ := cells_of_block hwk9
        have HE9 := Lib.hid hE'
        have HO9 := Lib.hid (And.intro ho9 (And.intro hg9 hwk9))
        clear hE hF hE' ho9 hg9 p1 p2 p4 p5 p7 p8 hwk9
        gi_wp2_with fail
        obtain ⟨v', hv'⟩ : ∃ v', Value.slice o7 ((A.length + 1) + 1) c7 = v' := ⟨_, rfl⟩
        rw [hv'] at HO9 ⊢
        have hszX : (W9.setCell ⟨B + 1 + 1, 9, none⟩ v').heap.size = W9.heap.size := by simp [World.setCell]
        have hs9 := HE9.out.size
        have hks : ∀ b, b < W.heap.size → b ≠ gx → b ≠ B + 1 + 1 → (W9.setCell ⟨B + 1 + 1, 9, none⟩ v').heap[b]? = W.heap[b]? := fun b hb h1 h2 =>
          (Below.heap_setCell _ _ _ _ h2).trans (HE9.out.block b hb (by simpa using h1))
        have hk7 : ∀ b, b < W7.heap.size → b ≠ gx → b ≠ B + 1 + 1 → (W9.setCell ⟨B + 1 + 1, 9, none⟩ v').heap[b]? = W7.heap[b]? := fun b hb h1 h2 => (hks b (by omega) h1 h2).trans (HE8.out.block b hb (by simp))
        have hFB : FrB w Os Ms (W9.setCell ⟨B + 1 + 1, 9, none⟩ v') := HF7.out.own (HF7.out.ext.trans ⟨HE9.out.os.trans HE8.out.os, HE9.out.tape.trans HE8.out.tape, HE9.out.output.trans HE8.out.output, by rw [hszX]; omega, fun b hb => (Below.heap_setCell _ _ _ _ (by show b ≠ B + 1 + 1; omega)).trans ((HE9.out.block b (by have := HF7.out.ext.size; omega) (by simp; omega)).trans (HE8.out.block b (by have := HF7.out.ext.size; omega) (by simp)))⟩) (by rw [hszX]; omega)
        have hlen1 : ((A ++ [z]) ++ [ys]).length = (A.length + 1) + 1 := by simp
        refine ⟨⟨?_, ?_, fun m hm h0 hml => ?_, by rw [hszX]; omega⟩, hFB, ?_⟩
        · exact (hk7 _ (by have := (hap _ (hin (w4.heap.size + 1) (by omega) (by omega))).2; omega) (by omega) (by omega)).trans HK7.out.2.1
        · exact (hk7 _ (by have := (hap _ (hin w4.heap.size (by omega) (by omega))).2; omega) (by omega) (by omega)).trans HK7.out.2.2
        · exact (hk7 m (HF7.out.bnd m hm) (fun e => hgx3 (e ▸ hm)) (fun e => (hap (B + 1 + 1) (hin _ (by omega) (by omega))).1 (e ▸ hm))).trans (HK7.out.1 m hm h0 hml)
        rw [HSU.out, HDD.out]
        refine ⟨?_, ?_, ⟨v', set_block HO9.out.2.2 _, hlen1.symm ▸ owns_keep HO9.out.1 fun g hg => Below.heap_setCell _ _ _ _ (by have := (owns_ge HO9.out.1 g hg).1; show g ≠ B + 1 + 1; omega), fun g hg => ⟨fun hm => ?_, by rw [hszX]; exact (owns_ge HO9.out.1 g hg).2⟩⟩, ?_, ?_⟩
        · exact (hks _ (by have := (hap _ (hin B (by omega) (by omega))).2; omega) (by omega) (by omega)).trans HP8.out.b0
        · exact (hks _ (by have := (hap _ (hin (B + 1) (by omega) (by omega))).2; omega) (by omega) (by omega)).trans HP8.out.tab
        · rcases HO9.out.2.1 g hg with h1 | h1
          · exact hgx3 (h1 ▸ hm)
          · have := HF7.out.bnd g hm; omega
        · exact (hks _ (by have := (hap _ (hin (B + 3) (by omega) (by omega))).2; omega) (by omega) (by omega)).trans HP8.out.ptr
        · exact (hks _ (by have := (hap _ (hin (B + 4) (by omega) (by omega))).2; omega) (by omega) (by omega)).trans HP8.out.b4
      · have HDD : Hid (snocD (A ++ [z]) ys = A ++ [z]) := Lib.hid (by
          unfold snocD
          rw [if_pos]
          simp only [List.getLast?_append, List.getLast?_singleton]
          have : z = ys := by simpa using hq
          rw [this]
          rfl)
        refine wpIn_region_rgR 22 [] none [] (by kernel_rfl) (by kernel_rfl) (by kernel_rfl) ?_
        simp only [List.take_succ_cons, List.take_zero, List.drop_succ_cons, List.drop_zero]
        repeat (first | (refine tree_det (by rfl) _ (by rfl) (fun W hW => by go_simp; (try simp (disch := omega) only [IntWalk.i64_in]); try rfl) ?_; simp only [Act.put, List.setIfInBounds_toArray, List.set_cons_succ, List.set_cons_zero]) | (refine tree_skip (by rfl) (by rfl) ?_; simp only [Act.put, List.setIfInBounds_toArray, List.set_cons_succ, List.set_cons_zero]))
        refine tree_det (by rfl) (.pointer (some ⟨gb, A.length * 3, none⟩)) (by rfl) (fun W hW => by go_simp; (try simp (disch := omega) only [IntWalk.i64_in]); (try rw [if_pos (by omega)]); (try simp); (try (intro hx; exfalso; omega))) ?_
        simp only [Act.put, List.setIfInBounds_toArray, List.set_cons_succ, List.set_cons_zero]
        refine tree_det (by rfl) (.agg (intCells z).toArray) (by rfl) (fun W hW => exec_load_mid 107 _ (by rfl) gb (A.length * 3) (by rfl) (intCells z) _ (fun j u hj => (hW gb _ hglt (by simp)).trans (hrng j u hj)) Try.underlying107 rfl (by rw [hzl]; kernel_rfl)) ?_
        simp only [Act.put, List.setIfInBounds_toArray, List.set_cons_succ, List.set_cons_zero]
        refine tree_det (by rfl) (.agg #[iv y0, iv y1, iv y2]) (by rfl) (fun W hW => by go_simp; try rfl) ?_
        simp only [Act.put, List.setIfInBounds_toArray, List.set_cons_succ, List.set_cons_zero]
        refine tree_det (by rfl) (.bool false) (by rfl) (fun W hW => (exec_neq_ints 107 3 _ 3 _ _ (by rfl) Try.underlying107 Try.underlying3 (by intro w; go_simp) (by kernel_rfl) z [y0, y1, y2] (by rfl) (by rfl) hz3 (by rfl)).trans (by rw [HYS.out.1] at hq; rw [hq]; rfl)) ?_
        simp only [Act.put, List.setIfInBounds_toArray, List.set_cons_succ, List.set_cons_zero]
        repeat (first | (refine tree_det (by rfl) _ (by rfl) (fun W hW => by go_simp; (try simp (disch := omega) only [IntWalk.i64_in]); try rfl) ?_; simp only [Act.put, List.setIfInBounds_toArray, List.set_cons_succ, List.set_cons_zero]) | (refine tree_skip (by rfl) (by rfl) ?_; simp only [Act.put, List.setIfInBounds_toArray, List.set_cons_succ, List.set_cons_zero]))
        intro W hE hF
        obtain ⟨hc, hf⟩ := bcell hE.below
        have hzE := hE.size
        (try simp only [World.size_alloc] at hzE)
        have hE7' : Ext [] W7 W := hE
        have HE8 := Lib.hid hE7'
        clear hE hF hc hf hE7'
        gi_wp2_with fail
        have hs8 := HE8.out.size
        refine ⟨⟨?_, ?_, fun m hm h0 hml => ?_, by omega⟩, (HF7.out.step (HE8.out.more (by simp)) (fun m hm => .inl hm)).1, ?_⟩
        · exact (HE8.out.block _ (Array.getElem?_eq_some_iff.1 HK7.out.2.1).1 (by simp)).trans HK7.out.2.1
        · exact (HE8.out.block _ (Array.getElem?_eq_some_iff.1 HK7.out.2.2).1 (by simp)).trans HK7.out.2.2
        · exact (HE8.out.block m (by omega) (by simp)).trans (HK7.out.1 m hm h0 hml)
        · rw [HSU.out, HDD.out]
          exact HP7.out.kept HE8.out.size (fun b h1 h2 => HE8.out.block b (by have := (hap b (hin b h1 (by omega))).2; omega) (by simp)) (fun g h1 h2 h3 => HE8.out.block g h2 (by simp)) (fun m hm => .inl hm)
  case hdone =>
    rintro Ms W ⟨hF, hP⟩ hD hlt
    obtain ⟨v, hv1, hv2, hv3⟩ := hP.work
    obtain ⟨c1, f1, l1⟩ := cells_of_block (show W.heap[B + 1 + 1 + 1]? = some (.cells #[.pointer (some ⟨B + 1 + 1, 0, none⟩)] 116 (0, 0)) from hP.ptr)
    have hFE := (hF.put (Obj.deferred none) (r := w4.heap.size) (by omega)).ext
    have HX := Lib.hid (And.intro hFE (And.intro hv1 (And.intro hv2 hP.tab)))
    clear hF hP hv1 hv2 hv3 hFE
    gi_wp2_with fail
    refine ⟨by simp, .inl ⟨_, _, rfl, run_takeDeferred hD, ?_⟩⟩
    refine ⟨.pointer (some ⟨B + 1 + 1, 0, none⟩), by simp [results, Try.results95, go_sem], B + 1 + 1, B + 1, v, rfl, by omega, by omega, ?_, ⟨?_, HT'.out _ HX.out.1, HN'.out _ HX.out.1, ?_⟩, HX.out.1⟩
    · exact (World.putObj_heap_other (by omega)).trans HX.out.2.2.2
    · exact (World.putObj_heap_other (by omega)).trans HX.out.2.1
    · exact SlAt.of_owns (owns_keep HX.out.2.2.1 fun g hg => World.putObj_heap_other (by have := (owns_ge HX.out.2.2.1 g hg).1; omega))
  case hstop => rintro cd Ms W h; exact h.elim

end Go.Proofs.Ytdjgikcnmokjkaa

/-
  Contracts of package couch, twelfth part: the iterator of truths.
-/
import Derived.WalkKit
import Derived.WalkLawsBesides
import Derived.WalkSpells
import Derived.Outline
import Derived.Handy
import Derived.KernelRfl
import Derived.Lib.Hide
import Derived.Test.YtoibfafmnaooaaaW12
namespace Go.Proofs.Ytoibfafmnaooaaa
open Go.RowKit Go.RG Go.SL Go.Shelf Cou
set_option maxHeartbeats 400000
set_option maxRecDepth 10000
attribute [local go_sem] Oper.semAt_some

theorem ranges_own (h : HeapD) (o : Option Addr) (cc : Nat) (b c : Value) (w : World) (hw : PairsAt w (.slice o h.wet.length cc) h.wet) (hlen : h.wet.length ≤ 1000) :
    Calls Try.prog 100 #[hv h (.slice o h.wet.length cc) b c] w (POwn 36 2 (h.wet.length + 1) (pairCells (h.start :: h.wet)) w) := by
  have HW := Lib.hid hw
  clear hw
  go_enter Try.func100, Try.ntmps100
  go_wp2_with (at_builtin; refine wpList_append rfl _ _ tPairs rfl (w.heap.size + 1) (.slice (some ⟨w.heap.size + 1, 0, none⟩) 1 1) 1 [iv h.start.1, iv h.start.2] rfl ?_ (.slice o h.wet.length cc) h.wet.length (pairCells h.wet) rfl ?_ (one_pairs _) (by omega) (by omega) (by simp) ?_)
  · exact owns_block (heap_new1 _ _ _) rfl (Nat.le_refl _) (by decide)
  · exact (HW.out.alloc _).alloc _
  · intro v' w1 hown hgrow
    have HO := Lib.hid hown
    have HG := Lib.hid hgrow
    clear hown hgrow
    go_wp2
    go_returns
    refine ⟨v', by simp, ?_, ?_⟩
    · have := HO.out
      rw [Nat.add_comm 1 h.wet.length] at this
      exact ⟨this.1, this.2.imp id (fun ⟨g, cap, cur, h1, h2, h3⟩ => ⟨g, cap, cur, h1, by omega, h3⟩)⟩
    · exact Below.grown (bgoAlloc (bgoAlloc (Below.refl _ _) _) _) HG.out (by simp; omega) (fun k e => by cases e; show _ ≤ w.heap.size + 1; omega)

theorem slice_rest (ob n : Nat) (hn : 1 ≤ n) (W : World) :
    (Instr.slice 25 (.slice (some ⟨ob, 0, none⟩) (n + 1) (n + 1)) (some (iv 1)) none none).run Try.prog W = .ok (.slice (some ⟨ob, 1, none⟩) n n) W := by
  have h0 : ¬ n + 1 = 1 := by omega
  have h1 : (1 : Int) ≤ ((n + 1 : Nat) : Int) := by omega
  have := run_slice_l (P := Try.prog) W 25 (some ⟨ob, 0, none⟩) (n + 1) (n + 1) (by kernel_rfl) .i64 1 (by omega) h1
  rw [this]
  have h2 : ¬ n = 0 := by omega
  simp [go_sem, sliced, h2]

/-- All cells of a block are written. -/
theorem store_block (P : Program) {w : World} {g : Nat} {t : TypeId} {cur : Array Value} (ys : List Int) (hg : w.heap[g]? = some (.cells cur t (0, 0))) (hl : cur.size = ys.length) :
    ∃ w', (storeCells ⟨g, 0, none⟩ (intCells ys)).run P w = .ok () w' ∧ w'.heap[g]? = some (.cells (intCells ys).toArray t (0, 0)) ∧ Ext [g] w w' := by
  have hil : (intCells ys).length = ys.length := by simp [intCells]
  have h := run_storeCells_at P g 0 t (intCells ys) 0 cur w hg (by omega) (one_ints ys)
  refine ⟨_, h, ?_, rfl, rfl, rfl, by simp, fun k _ hm => setRow_other _ _ _ _ (by simpa using hm)⟩
  rw [setRow_heap w g cur _ t _ hg]
  simp
  omega

/-- What the iterator of truths asks of the world at every moment. -/
structure TInv (wb mb bw bo : Nat) (h : HeapD) (a b c ov : Value) (out : List Int) (W : World) : Prop where
  w : W.heap[bw]? = some (.cells #[.pointer (some ⟨wb, 0, none⟩)] 106 (0, 0))
  o : W.heap[bo]? = some (.cells #[ov] 25 (0, 0))
  work : WorkAt W wb mb h a b c
  wet : PairsAt W a h.wet
  turns : IntsAt W b h.turns
  readings : TriplesAt W c h.readings
  out : IntsAt W ov out

theorem TInv.below {wb mb bw bo : Nat} {h : HeapD} {a b c ov : Value} {out : List Int} {W W' : World} (t : TInv wb mb bw bo h a b c ov out W) (hb : Below W.heap.size W W') : TInv wb mb bw bo h a b c ov out W' :=
  ⟨(hb.block _ (Array.getElem?_eq_some_iff.1 t.w).1).trans t.w, (hb.block _ (Array.getElem?_eq_some_iff.1 t.o).1).trans t.o, t.work.below hb (Nat.le_refl _), t.wet.below hb (Nat.le_refl _), t.turns.below hb (Nat.le_refl _),
    t.readings.below hb (Nat.le_refl _), t.out.below hb (Nat.le_refl _)⟩

theorem ext_newer {Ms : List Nat} {a b c : World} {x : Nat} (h : Ext Ms a b) (k : Ext [x] b c) (hx : a.heap.size ≤ x) : Ext Ms a c :=
  ⟨k.os.trans h.os, k.tape.trans h.tape, k.output.trans h.output, Nat.le_trans h.size k.size,
    fun i hi hm => (k.block i (Nat.lt_of_lt_of_le hi h.size) (by simp; omega)).trans (h.block i hi hm)⟩

theorem skipR {l n : Nat} {P : Program} {ops : Array Oper} {Q : Exit → Act → World → Prop} {a : Act} {w : World} {rest : List Oper} {o : Oper} (hw : Region.wanted o (yielded ops a.tmps) = false)
    (h : wpListIn (Fence.wide.inRound l) n P ops Q rest (a.put o.dst undef) w) : wpListIn (Fence.wide.inRound l) n P ops Q (o :: rest) a w := by
  simp only [wpListIn, hw]
  exact ⟨fun _ _ => trivial, h⟩

theorem range_all_succ (q : Nat) (f : Nat → Bool) : (List.range (q + 1)).all f = ((List.range q).all f && f q) := by
  rw [List.range_succ, List.all_append]
  simp

theorem not_mb {W : World} {mb b : Nat} {cool : Int} {cs : Array Value} {t : TypeId} {f : Nat × Nat} (hc : Cache W mb cool) (h : W.heap[b]? = some (Obj.cells cs t f)) : ¬ b = mb := by
  intro e; subst e; exact hc.noCells _ _ _ h

/-- A truth is handed over as its start and the rest of the slice of block ob. -/
def TruthE (mb : Nat) (Ms : List Nat) (t : Int × List Int) (v : Value) (W : World) : Prop :=
  ∃ ob : Nat, v = .agg #[iv t.1, .slice (some ⟨ob, 1, none⟩) t.2.length t.2.length] ∧ IntsAt W (.slice (some ⟨ob, 1, none⟩) t.2.length t.2.length) t.2 ∧ ob ∈ Ms ∧ ob ≠ mb

/-- The iterator's own blocks: the table, the box of yield, the box and the block of the ranges, the loop's two. -/
abbrev pvs (mb tb bx rb d : Nat) : List Nat := [mb, tb, bx, rb, d, d + 1]

/-- What the iterator keeps for itself, beside what the inner one turns. -/
structure Priv (l mb tb bx rb d cap : Nat) (R : List Rng) (Ms : List Nat) (W : World) : Prop where
  y : W.heap[tb]? = some (.cells #[.func (.yield l) #[] #[]] 125 (0, 0))
  box : ListInv bx (.slice (some ⟨rb, 0, none⟩) R.length cap) R W
  apart : ∀ m ∈ Ms, m ∉ pvs mb tb bx rb d
  small : ∀ p ∈ pvs mb tb bx rb d, p < W.heap.size

theorem ListInv.kept {bx rb cap : Nat} {R : List Rng} {n : Nat} {W W' : World} (h : ListInv bx (.slice (some ⟨rb, 0, none⟩) n cap) R W) (h1 : W'.heap[bx]? = W.heap[bx]?) (h2 : W'.heap[rb]? = W.heap[rb]?) :
    ListInv bx (.slice (some ⟨rb, 0, none⟩) n cap) R W' :=
  ⟨h1.trans h.1, h.2.kept fun b off n c hv _ => by cases hv; exact h2⟩

theorem Priv.kept {l mb tb bx rb d cap : Nat} {R : List Rng} {Ms Ms' : List Nat} {W W' : World} (h : Priv l mb tb bx rb d cap R Ms W) (hs : W.heap.size ≤ W'.heap.size) (hk : ∀ p ∈ [tb, bx, rb], W'.heap[p]? = W.heap[p]?)
    (hMs : ∀ m ∈ Ms', m ∈ Ms ∨ (W.heap.size ≤ m ∧ m < W'.heap.size)) : Priv l mb tb bx rb d cap R Ms' W' :=
  ⟨(hk _ (by simp)).trans h.y, h.box.kept (hk _ (by simp)) (hk _ (by simp)), fun m hm hp => by
    rcases hMs m hm with h1 | h1
    · exact h.apart m h1 hp
    · have := h.small m hp; omega, fun p hp => by have := h.small p hp; omega⟩

theorem Priv.ext {l mb tb bx rb d cap : Nat} {R : List Rng} {Ms Ms' : List Nat} {W W' : World} (h : Priv l mb tb bx rb d cap R Ms W) (hE : Ext Ms W W')
    (hMs : ∀ m ∈ Ms', m ∈ Ms ∨ (W.heap.size ≤ m ∧ m < W'.heap.size)) : Priv l mb tb bx rb d cap R Ms' W' :=
  h.kept hE.size (fun p hp => hE.block p (h.small p (by simp at hp ⊢; omega)) (fun hm => h.apart p hm (by simp at hp ⊢; omega))) hMs

section
variable {l mb tb bx rb d cap : Nat} {R : List Rng} {wb bw bo : Nat} {h : HeapD} {a b c ov : Value} {out : List Int} {J : List Nat → Option Nat → World → Prop}
  (hInv : ∀ Ms s W1, J Ms s W1 → TInv wb mb bw bo h a b c ov out W1)
  (hstep : ∀ Ms Ms' s W1 W2, J Ms s W1 → Ext Ms W1 W2 → (∀ m ∈ Ms', m ∈ Ms ∨ (W1.heap.size ≤ m ∧ m < W2.heap.size)) → Cache W2 mb h.cool → J Ms' s W2)
include hInv hstep

/-- The caller's invariant through a step of the inner iterator. -/
theorem J_inner {Ms Ms' : List Nat} {s : Option Nat} {W1 W2 : World} (hp : Priv l mb tb bx rb d cap R Ms W1) (hJ : J (pvs mb tb bx rb d ++ Ms) s W1) (hE : Ext Ms W1 W2) (hMs : ∀ m ∈ Ms', m ∈ Ms ∨ (W1.heap.size ≤ m ∧ m < W2.heap.size)) :
    J (pvs mb tb bx rb d ++ Ms') s W2 := by
  refine hstep _ _ _ _ _ hJ (hE.more fun x hx => List.mem_append_right _ hx) ?_ ?_
  · intro m hm
    rcases List.mem_append.1 hm with h1 | h1
    · exact .inl (List.mem_append_left _ h1)
    · exact (hMs m h1).imp (fun h2 => List.mem_append_right _ h2) id
  · have hc := (hInv _ _ _ hJ).work.cache
    exact hc.kept (hE.block _ hc.lt (fun hm => hp.apart _ hm (by simp)))

/-- The caller's invariant where one of the iterator's own blocks is turned that is not the table. -/
theorem J_put {Ms : List Nat} {s : Option Nat} {W : World} {r : Nat} (o : Obj) (hr : r ∈ pvs mb tb bx rb d) (hm : r ≠ mb) (hJ : J (pvs mb tb bx rb d ++ Ms) s W) : J (pvs mb tb bx rb d ++ Ms) s (W.putObj r o) := by
  refine hstep _ _ _ _ _ hJ ((ext_put W r o).more fun x hx => ?_) (fun m hm => .inl hm) ?_
  · have : x = r := by simpa using hx
    subst this
    exact List.mem_append_left _ hr
  · exact (hInv _ _ _ hJ).work.cache.kept (World.putObj_heap_other (Ne.symm hm))

/-- The caller's invariant where the table is turned. -/
theorem J_table {Ms : List Nat} {s : Option Nat} {W W' : World} (hJ : J (pvs mb tb bx rb d ++ Ms) s W) (hE : Ext [mb] W W') (hc : Cache W' mb h.cool) : J (pvs mb tb bx rb d ++ Ms) s W' :=
  hstep _ _ _ _ _ hJ (hE.more fun x hx => by simp at hx; subst hx; simp) (fun m hm => .inl hm) hc
end

set_option maxHeartbeats 8000000 in
theorem truths_seq (h : HeapD) (hS : Sound h) (a b c ov : Value) (out : List Int) (wb mb bw bo : Nat) :
    SeqC Try.prog 116 #[.pointer (some ⟨bw, 0, none⟩), .pointer (some ⟨bo, 0, none⟩)] (truthsL h out) (TruthE mb) [mb] (fun W => Cache W mb h.cool) (TInv wb mb bw bo h a b c ov out) := by
  intro l J W hInv hstep hY h0
  have hT := hInv _ _ _ h0
  obtain ⟨oa, ca, rfl⟩ := hT.wet.open
  obtain ⟨otn, cb, rfl⟩ := hT.turns.open
  obtain ⟨oc, cc, rfl⟩ := hT.readings.open
  obtain ⟨oo, co, rfl⟩ := hT.out.open
  have c1 := cell_of_block0 hT.w
  have hb1 := World.block_lt_of_cell? W _ c1
  have c2 := hT.work.cell
  have hb2 := hT.work.lt
  have HT := Lib.hid hT
  have HI := Lib.hid hInv
  have HST := Lib.hid hstep
  have HY := Lib.hid hY
  have HJ := Lib.hid h0
  have HSS := Lib.hid hS
  have hwl : h.wet.length ≤ 10 := by have := hS.wetLen; have := hS.last9; omega
  clear hInv hstep hY h0 hT hS
  refine (callsIn_wide (n := 0)).1 ?_
  refine callsIn_of_wp_marks Try.func116 rfl trivial ?_
  simp only [Try.ntmps116, List.size_toArray, List.length_cons, List.length_nil, Nat.reduceAdd, Nat.reduceSub, Array.replicate_succ, Array.replicate_zero, List.push_toArray, List.append_toArray, List.nil_append, List.cons_append]
  gi_wp2_with fail
  refine (callsIn_wide.2 (ranges_own h oa ca _ _ _ (HT.out.wet.alloc _) (by omega))).mono ?_
  rintro e w1 ⟨v1, rfl, hown, hb⟩
  obtain ⟨rb, cap, rfl, hrb, hrl⟩ : ∃ rb cap : Nat, v1 = .slice (some ⟨rb, 0, none⟩) (h.wet.length + 1) cap ∧ W.heap.size < rb ∧ PairsAt w1 (.slice (some ⟨rb, 0, none⟩) (h.wet.length + 1) cap) (h.start :: h.wet) := by
    have hsl := SlAt.of_owns hown
    rcases hown.2 with ⟨rfl, h0⟩ | ⟨g, cp, cur, rfl, hbg, hrest⟩
    · omega
    · exact ⟨g, cp, rfl, by simp at hbg; omega, hsl⟩
  have HB1 := Lib.hid (show Below W.heap.size W w1 from bgo (bgoAlloc (Below.refl _ _) _) hb)
  have HTB := Lib.hid ((hb.block W.heap.size (by simp)).trans (heap_new0 _ _))
  have hsz1 := hb.size
  have HRL := Lib.hid hrl
  clear hown hb hrl c1 c2
  gi_wp2_with fail
  refine (callsIn_wide.2 (lists_any _ _ _ w1)).mono ?_
  rintro e w2 ⟨rfl, rfl⟩
  gi_wp2_with fail
  obtain ⟨w2, hw2⟩ : ∃ w2, w1.alloc (.cells #[.slice (some ⟨rb, 0, none⟩) (h.wet.length + 1) cap] 37) = w2 := ⟨_, rfl⟩
  have hsz2 : w2.heap.size = w1.heap.size + 1 := by rw [← hw2]; simp
  have hB12 : Below w1.heap.size w1 w2 := by rw [← hw2]; exact bgoAlloc (Below.refl _ _) _
  have hbx2 : w2.heap[w1.heap.size]? = some (.cells #[.slice (some ⟨rb, 0, none⟩) (h.wet.length + 1) cap] 37 (0, 0)) := by rw [← hw2]; exact heap_new0 _ _
  rw [hw2]
  have htb2 := (hB12.block _ (Array.getElem?_eq_some_iff.1 HTB.out).1).trans HTB.out
  have hrl2 : PairsAt w2 (.slice (some ⟨rb, 0, none⟩) (h.wet.length + 1) cap) (h.start :: h.wet) := HRL.out.below hB12 (Nat.le_refl _)
  have hrb2 : rb < w1.heap.size := by
    obtain ⟨b', off', hbb, hlt, _⟩ := PairsAt.cell HRL.out (show 0 < (h.start :: h.wet).length by simp)
    cases hbb; exact hlt
  have hwsz : W.heap.size < w1.heap.size := (Array.getElem?_eq_some_iff.1 HTB.out).1
  have hmb : mb < W.heap.size := HT.out.work.cache.lt
  have hBW2 : Below W.heap.size W w2 := bgo HB1.out hB12
  have HP0 : Hid (∀ o o', Priv l mb W.heap.size w1.heap.size rb w2.heap.size cap (h.start :: h.wet) [] ((w2.alloc o).alloc o')) := Lib.hid (fun o o' =>
    ⟨(Below.heap_alloc _ _ _ (by simp; omega)).trans ((Below.heap_alloc _ _ _ (by omega)).trans htb2),
      ListInv.kept (W := w2) ⟨hbx2, hrl2⟩ ((Below.heap_alloc _ _ _ (by simp; omega)).trans (Below.heap_alloc _ _ _ (by omega))) ((Below.heap_alloc _ _ _ (by simp; omega)).trans (Below.heap_alloc _ _ _ (by omega))), by simp,
      fun p hp => by simp at hp ⊢; omega⟩)
  have HJ0 : Hid (∀ o o', J (pvs mb W.heap.size w1.heap.size rb w2.heap.size ++ []) (some (cnt h out 0)) ((w2.alloc o).alloc o')) := Lib.hid (fun o o' => by
    have hBW : Below W.heap.size W ((w2.alloc o).alloc o') := bgoAlloc (bgoAlloc hBW2 _) _
    exact HST.out _ _ _ _ _ HJ.out (Ext.of_below hBW) (fun m hm => by simp at hm ⊢; omega) (HT.out.work.cache.kept (hBW.block mb hmb)))
  clear hw2 hbx2 htb2 hrl2 hB12
  refine wpIn_rangeC (lists_seq (h.start :: h.wet) ?hR (by simp; omega) w1.heap.size (.slice (some ⟨rb, 0, none⟩) (h.wet.length + 1) cap)) rfl (enters_of Try.func130 (by kernel_rfl) rfl) rfl (by simp)
    (fun Ms k W' => Priv l mb W.heap.size w1.heap.size rb w2.heap.size cap (h.start :: h.wet) Ms W' ∧ J (pvs mb W.heap.size w1.heap.size rb w2.heap.size ++ Ms) (some (cnt h out k)) W')
    (fun c Ms W' => c = .ret ∧ Priv l mb W.heap.size w1.heap.size rb w2.heap.size cap (h.start :: h.wet) Ms W' ∧ J (pvs mb W.heap.size w1.heap.size rb w2.heap.size ++ Ms) none W')
    ?hInv ?hInvx ?hI ?hIx ?hIp ?hIxp (fun o o' => ⟨HP0.out o o', HJ0.out o o'⟩)
    (fun a Ms k W1 a₁ W' => ∃ ob : Nat, a₁ = { tmps := (a.tmps.setIfInBounds 16 (.slice (some ⟨ob, 0, none⟩) (h.wet.length + 1) (h.wet.length + 1))).setIfInBounds 4 (.slice (some ⟨ob, 0, none⟩) (h.wet.length + 1) (h.wet.length + 1)), defers := [] } ∧
      Priv l mb W.heap.size w1.heap.size rb w2.heap.size cap (h.start :: h.wet) Ms W' ∧ J (pvs mb W.heap.size w1.heap.size rb w2.heap.size ++ Ms) (some (cnt h out k)) W' ∧ ob ∈ Ms ∧ W'.heap[ob]? = some (.cells (intCells ((allL h).getD k [])).toArray 3 (0, 0)) ∧
      (∀ m ∈ Ms, W'.heap[m]? = W1.heap[m]?) ∧ W1.heap.size ≤ W'.heap.size)
    ?hMp ?hassign ?hbody ?hdone ?hstop
  case hR =>
    intro r hr
    have hS := HSS.out
    rcases List.mem_cons.1 hr with rfl | hr
    · exact ⟨hS.start0, hS.start1, hS.start2⟩
    · have := hS.wet r hr; omega
  case hInv => rintro Ms k W' ⟨hp, _⟩; exact hp.box
  case hInvx => rintro c Ms W' ⟨_, hp, _⟩; exact hp.box
  case hI => rintro Ms Ms' k Wa Wb ⟨hp, hJ⟩ hE hMs _; exact ⟨hp.ext hE hMs, J_inner HI.out HST.out hp hJ hE hMs⟩
  case hIx => rintro c Ms Ms' Wa Wb ⟨hc, hp, hJ⟩ hE hMs _; exact ⟨hc, hp.ext hE hMs, J_inner HI.out HST.out hp hJ hE hMs⟩
  case hIp =>
    rintro Ms k W' r o ⟨hp, hJ⟩ hr
    exact ⟨hp.kept (by simp) (fun p hp' => World.putObj_heap_other (by simp at hp'; omega)) (fun m hm => .inl hm), J_put HI.out HST.out o (by simp; omega) (by omega) hJ⟩
  case hIxp =>
    rintro c Ms W' r o ⟨hc, hp, hJ⟩ hr
    exact ⟨hc, hp.kept (by simp) (fun p hp' => World.putObj_heap_other (by simp at hp'; omega)) (fun m hm => .inl hm), J_put HI.out HST.out o (by simp; omega) (by omega) hJ⟩
  case hMp =>
    rintro Ms k W1 a₁ W' o ⟨ob, ha, hp, hJ, hob, hcells, hk, hs⟩
    have hne : ∀ m ∈ Ms, m ≠ w2.heap.size + 1 := fun m hm e => hp.apart m hm (by simp; omega)
    exact ⟨ob, ha, hp.kept (by simp) (fun p hp' => World.putObj_heap_other (by simp at hp'; omega)) (fun m hm => .inl hm), J_put HI.out HST.out o (by simp) (by omega) hJ, hob,
      (World.putObj_heap_other (hne _ hob)).trans hcells, fun m hm => (World.putObj_heap_other (hne m hm)).trans (hk m hm), by simpa using hs⟩
  case hassign =>
    rintro Ms k v W' hk ⟨hp, hJ⟩ ⟨ob, rfl, hcells, hob⟩ hlt
    have hlen : ((prodL (h.start :: h.wet))[k]).length = h.wet.length + 1 := prodL_len _ _ (List.getElem_mem _)
    rw [hlen]
    gi_wp2
    refine ⟨⟨ob, rfl, hp, hJ, hob, ?_, fun m hm => trivial, Nat.le_refl _⟩, trivial, trivial⟩
    have hk' : k < (allL h).length := hk
    rw [show (allL h).getD k [] = (prodL (h.start :: h.wet))[k] from by rw [List.getD_eq_getElem?_getD, List.getElem?_eq_getElem hk']; rfl]
    exact hcells
  case hdone =>
    rintro Ms W' ⟨hp, hJ⟩ hD hlt
    gi_wp2
    refine ⟨by simp, .inl ⟨_, _, rfl, run_takeDeferred hD, ?_⟩⟩
    refine ⟨_, results_none rfl _ _ _, ⟨_, rfl⟩, pvs mb W.heap.size w1.heap.size rb w2.heap.size ++ Ms, .inl ?_⟩
    have := J_put HI.out HST.out (Obj.deferred none) (r := w2.heap.size) (by simp) (by omega) hJ
    rw [← cnt_all]
    exact this
  case hstop =>
    rintro c Ms W' ⟨rfl, hp, hJ⟩ hD hlt
    gi_wp2
    refine ⟨by simp, .inl ⟨_, _, rfl, run_takeDeferred hD, ?_⟩⟩
    refine ⟨_, results_none rfl _ _ _, ⟨_, rfl⟩, pvs mb W.heap.size w1.heap.size rb w2.heap.size ++ Ms, .inr ?_⟩
    exact J_put HI.out HST.out (Obj.deferred none) (r := w2.heap.size) (by simp) (by omega) hJ
  case hbody =>
    rintro Ms k W1 a₁ W' busy hk ⟨ob, rfl, hp, hJ, hob, hcells, hkeep, hsz⟩ hrec hD
    simp only [List.setIfInBounds_toArray, List.set_cons_succ, List.set_cons_zero]
    have hTI := HI.out _ _ _ hJ
    have hk' : k < (allL h).length := hk
    have hxm : (allL h).getD k [] ∈ allL h := by rw [List.getD_eq_getElem?_getD, List.getElem?_eq_getElem hk']; exact List.getElem_mem _
    have hxk : (allL h).getD k [] = (allL h)[k] := by rw [List.getD_eq_getElem?_getD, List.getElem?_eq_getElem hk']; rfl
    obtain ⟨s0, rest, hx, hrl, hs0, hrest⟩ := list_split HSS.out hxm
    rw [hx] at hcells
    have hcell0 := cell_of_ints hcells (k := 0) (by simp)
    simp only [List.getElem_cons_zero] at hcell0
    have hobs := World.block_lt_of_cell? W' _ hcell0
    have hslR : IntsAt W' (.slice (some ⟨ob, 1, none⟩) h.wet.length h.wet.length) rest := by
      refine ⟨by simp [intCells], _, _, by rw [hrl], Nat.le_refl _, by simp [maxLen]; omega, (fun h => by cases h), fun a ha => ?_⟩
      cases ha
      refine ⟨rfl, fun j u hj => ?_⟩
      simp only [World.cell?, hcells]
      rw [show (1 + j) = j + 1 from by omega]
      simpa [intCells] using hj
    have hn1 : 1 ≤ h.wet.length := by have := HSS.out.wetLen; have := HSS.out.last0; omega
    have hnI : (1 : Int) ≤ ((h.wet.length + 1 : Nat) : Int) := by omega
    have hne0 : ¬ h.wet.length = 0 := by omega
    have hwI : ((h.wet.length : Int) + 1).toNat = h.wet.length + 1 := by omega
    have HX : Hid ((allL h)[k] = s0 :: rest) := Lib.hid (by rw [← hxk]; exact hx)
    have HTI := Lib.hid hTI
    have HP := Lib.hid hp
    have HJb := Lib.hid hJ
    have HCL := Lib.hid hcells
    have HRC := Lib.hid (And.intro hrec hD)
    have HKP := Lib.hid hkeep
    have HSR := Lib.hid hslR
    have HRB := Lib.hid (And.intro hs0 hrest)
    have hslc := slice_rest ob h.wet.length hn1
    clear hTI hxm hxk hx hcells hp hJ hrec hD hkeep hslR hrest
    gi_wp2_with fail
    refine wpIn_region_rgR 7 [] none [(6, Spec.block W'.heap.size #[iv 0, .slice none 0 0] 71)] (by kernel_rfl) (by kernel_rfl) (by kernel_rfl) ?_
    simp only [List.take_succ_cons, List.take_zero, List.drop_succ_cons, List.drop_zero]
    repeat (refine tree_det (by rfl) _ (by rfl) (fun W hW => by go_simp; (try simp (disch := omega) only [IntWalk.i64_in, Int.tdiv_eq_ediv_of_nonneg]); try rfl) ?_; simp only [Act.put, List.setIfInBounds_toArray, List.set_cons_succ, List.set_cons_zero])
    refine tree_block W'.heap.size _ _ (by rfl) (Nat.le_refl _) (by rfl) (by simp) (by simp) (fun W hW => by go_simp; try rfl) (fun b5 => ?_)
    simp only [Act.put, List.setIfInBounds_toArray, List.set_cons_succ, List.set_cons_zero]
    intro W3 hE hF
    obtain ⟨b', hb, hbB, hblk⟩ := hF _ (List.Mem.head _)
    cases hb
    have hfr := frozen_of_block hblk
    have hb5 := (Array.getElem?_eq_some_iff.1 hblk).1
    have hg : ∀ i, W3.cell? ⟨b5, i, none⟩ = (#[iv 0, .slice none 0 0] : Array Value)[i]? := fun i => by
      simp only [World.cell?, hblk]; rfl
    have HE3 := Lib.hid hE.below
    have HB5 := Lib.hid hblk
    clear hblk hF hE hslc hcell0
    gi_wp2_with fail
    obtain ⟨W4, hW4⟩ : ∃ W4, (W3.setCell ⟨b5, 0, none⟩ (iv s0)).setCell ⟨b5, 1, none⟩ (.slice (some ⟨ob, 1, none⟩) h.wet.length h.wet.length) = W4 := ⟨_, rfl⟩
    rw [hW4]
    have hB4 : Below W'.heap.size W' W4 := by rw [← hW4]; exact bgoSet (bgoSet HE3.out hbB _) hbB _
    have hblk5 : W4.heap[b5]? = some (.cells #[iv s0, .slice (some ⟨ob, 1, none⟩) h.wet.length h.wet.length] 71 (0, 0)) := by rw [← hW4]; exact set_block (set_block HB5.out _) _
    have hT4 := HTI.out.below hB4
    have c1 := cell_of_block0 hT4.w
    have hb1 := World.block_lt_of_cell? W4 _ c1
    have c2 := hT4.work.cell
    have hb2 := hT4.work.lt
    have hb5' := (Array.getElem?_eq_some_iff.1 hblk5).1
    have hg5 : ∀ i, W4.cell? ⟨b5, i, none⟩ = (#[iv s0, .slice (some ⟨ob, 1, none⟩) h.wet.length h.wet.length] : Array Value)[i]? := fun i => by
      simp only [World.cell?, hblk5]; rfl
    have hn1' := not_mb hT4.work.cache hT4.w
    have hn2' := not_mb hT4.work.cache hT4.work.cells
    have hn5' := not_mb hT4.work.cache hblk5
    have hmb4 := hT4.work.cache.lt
    obtain ⟨ys, hy⟩ : ∃ ys, heats h (s0, rest) h.turns = ys := ⟨_, rfl⟩
    have hy10 : ys.length = 10 := by rw [← hy]; exact heatsTo_length _ _ _ _ _ _
    have HYY := Lib.hid hy
    have HT4 := Lib.hid hT4
    have HB4 := Lib.hid hB4
    have HK5 := Lib.hid hblk5
    clear hT4 hB4 hblk5 hW4 hy hfr hg hb5
    refine wpIn_region_rgR 9 [mb] (some 7) [(7, ⟨fun _ v => v = .agg (intCells ys).toArray, fun _ _ W => Cache W mb h.cool⟩), (8, Spec.block W4.heap.size #[iv 0, iv 0, iv 0, iv 0, iv 0, iv 0, iv 0, iv 0, iv 0, iv 0] 127)] (by kernel_rfl) (by kernel_rfl) (by kernel_rfl) ?_
    simp only [List.take_succ_cons, List.take_zero, List.drop_succ_cons, List.drop_zero]
    repeat (refine tree_det (by rfl) _ (by rfl) (fun W hW => by go_simp; (try simp (disch := omega) only [IntWalk.i64_in, Int.tdiv_eq_ediv_of_nonneg]); try rfl) ?_; simp only [Act.put, List.setIfInBounds_toArray, List.set_cons_succ, List.set_cons_zero])
    refine tree_some _ (by rfl) (by rfl) ⟨_, rfl⟩ (fun W5 hE hF => ?_) (fun v Wa Wb hc hE => ?_) (fun v hv => ?_)
    · have hE' : Ext [] W4 W5 := hE
      refine does_enter 80 #[.pointer (some ⟨wb, 0, none⟩), .agg #[iv s0, .slice (some ⟨ob, 1, none⟩) h.wet.length h.wet.length], .slice otn h.turns.length cb] (by go_simp; try rfl) ?_
      have hT5 := HT4.out.below hE'.below
      refine (play_any h _ _ _ wb mb s0 rest h.turns _ _ W5 hT5.work (HSR.out.below (bgo HB4.out hE'.below) (Nat.le_refl _)) hT5.turns (by omega) HSS.out.size0 HSS.out.size1 HSS.out.cool0 HSS.out.cool1 HRB.out.1.1 HRB.out.1.2 HRB.out.2).mono ?_
      rintro e W6 ⟨rfl, hcc, hE2⟩
      exact ⟨_, rfl, by rw [HYY.out], hcc, hE2⟩
    · have hE' : Ext [] Wa Wb := hE
      exact Cache.kept hc (hE'.block mb (Cache.lt hc) (by simp))
    obtain rfl : v = .agg (intCells ys).toArray := hv
    simp only [Act.put, List.setIfInBounds_toArray, List.set_cons_succ, List.set_cons_zero]
    refine tree_block W4.heap.size _ _ (by rfl) (Nat.le_refl _) (by rfl) (by simpa using hmb4) (by simp) (fun W hW => by go_simp; try rfl) (fun b6 => ?_)
    simp only [Act.put, List.setIfInBounds_toArray, List.set_cons_succ, List.set_cons_zero]
    intro W5 hE hF
    obtain ⟨b', hb, hbB6, hblk⟩ := hF _ (List.Mem.head _)
    cases hb
    have hcc : Cache W5 mb h.cool := hF _ (List.Mem.tail _ (List.Mem.head _))
    obtain ⟨W6, hst, hblk6, hE6⟩ := store_block Try.prog ys hblk (by rw [hy10]; rfl)
    have hyl : (intCells ys).length = 10 := by simp [intCells, hy10]
    have hmbb : mb < W4.heap.size := hmb4
    have hE6' : Ext [mb] W' W6 := ext_newer ((Ext.of_below HB4.out).trans hE) hE6 (by have := HB4.out.size; omega)
    have hcc6 : Cache W6 mb h.cool := hcc.kept (hE6.block mb (Cache.lt hcc) (by simp; omega))
    have hJ6 := J_table HI.out HST.out HJb.out hE6' hcc6
    have hT6 := HI.out _ _ _ hJ6
    have hP6 : Priv l mb W.heap.size w1.heap.size rb w2.heap.size cap (h.start :: h.wet) Ms W6 := HP.out.kept hE6'.size (fun p hp => hE6'.block p (HP.out.small p (by simp at hp ⊢; omega)) (by simp at hp ⊢; omega)) (fun m hm => .inl hm)
    have hblk5 := (hE6.block b5 (by have := hE.size; omega) (by simp; omega)).trans ((hE.block b5 hb5' (by simpa using hn5')).trans HK5.out)
    have c1 := cell_of_block0 hT6.w
    have c2 := hT6.work.cell
    have hs1 := World.block_lt_of_cell? W6 _ c1
    have hs2 := hT6.work.lt
    have HJ6 := Lib.hid hJ6
    have HT6 := Lib.hid hT6
    have HP6 := Lib.hid hP6
    have HK5 := Lib.hid hblk5
    have HE6 := Lib.hid hE6'
    have HK6 := Lib.hid hblk6
    clear hblk hF hE hcc hg5 hblk6 hE6 hE6' hcc6 hJ6 hT6 hP6 hblk5
    gi_wp2_with fail
    clear c1 c2
    have HY10 := Lib.hid hy10
    gi_loopw [7, 37] (fun r u wr => ∃ q : Nat, q ≤ h.readings.length ∧ u = .int .i64 q ∧ r = .bool ((List.range q).all (okAt h out (s0, rest))) ∧ Below W6.heap.size W6 wr)
      (fun _ u _ => h.readings.length - (intOf u).toNat)
    case atStart => exact ⟨0, Nat.zero_le _, rfl, rfl, Below.refl _ _⟩
    case round =>
      obtain ⟨q, hq, rfl, rfl, hBq⟩ := hrel
      have hTq := HT6.out.below hBq
      by_cases hlt : q < h.readings.length
      · obtain ⟨b', off', rfl, hb', e0, e1, e2⟩ := TriplesAt.cell hTq.readings hlt
        have hxr := HSS.out.rdg _ (List.getElem_mem hlt)
        have hok : okAt h out (s0, rest) q = (out.contains (q : Int) || rightR h.readings[q] ys) := by
          unfold okAt
          rw [HYY.out, show h.readings.getD q (0, 0, 0) = h.readings[q] from by simp [hlt]]
        have hsucc := range_all_succ q (okAt h out (s0, rest))
        rw [hok] at hsucc
        have hlast9 := HSS.out.last9
        have hr5 := HSS.out.rdgs
        have hbd6 : ∀ n ∈ ys, 0 ≤ n ∧ n ≤ 100000 := by
          rw [← HYY.out]
          intro n hn
          have := heats_bd (h := h) (t := (s0, rest)) h.turns HSS.out.size0 HSS.out.size1 HSS.out.cool0 HSS.out.cool1 HRB.out.1.1 HRB.out.1.2 HRB.out.2 (by simp; omega) n hn
          omega
        have hkk6 := (hBq.block b6 (Array.getElem?_eq_some_iff.1 HK6.out).1).trans HK6.out
        have d1 := cell_of_block0 hTq.o
        have hd1 := World.block_lt_of_cell? wr _ d1
        have hTout := hTq.out
        generalize h.readings[q] = x at e0 e1 e2 hxr hok hsucc
        generalize (List.range q).all (okAt h out (s0, rest)) = rq at hsucc
        obtain ⟨y0, y1, y2, y3, y4, y5, y6, y7, y8, y9, hys⟩ := ten_of HY10.out
        rw [hys] at hsucc hbd6 hkk6
        have hlb6 := (Array.getElem?_eq_some_iff.1 hkk6).1
        have hg6 : ∀ i, wr.cell? ⟨b6, i, none⟩ = (#[iv y0, iv y1, iv y2, iv y3, iv y4, iv y5, iv y6, iv y7, iv y8, iv y9] : Array Value)[i]? := fun i => by
          simp only [World.cell?, hkk6]; rfl
        have HSU := Lib.hid hsucc
        have HRT := Lib.hid (fun W => right_any x y0 y1 y2 y3 y4 y5 y6 y7 y8 y9 W hxr.1.1 (by omega) hxr.2.1.1 hxr.2.1.2 hxr.2.2.1 hxr.2.2.2 hbd6)
        have HBQ := Lib.hid hBq
        have HTQ := Lib.hid hTq
        have hqI : (q : Int) < h.readings.length := by omega
        generalize hrr : rightR x [y0, y1, y2, y3, y4, y5, y6, y7, y8, y9] = rr at HSU HRT
        have HCT := Lib.hid (fun (W : World) (hb : Below wr.heap.size wr W) => contains_any out (.slice oo out.length co) (q : Int) W (hTout.below hb (Nat.le_refl _)))
        generalize hcc : out.contains (q : Int) = cb at HSU HCT
        clear hsucc hok hrr hcc hTq hTout hBq hkk6 hys hbd6 hxr hyl hst
        cases rq
        · gi_wp2_with (refine skipR (by rfl) ?_; simp only [Act.put, List.setIfInBounds_toArray, List.set_cons_succ, List.set_cons_zero])
          go_roundw
          case rel => exact ⟨.bool false, _, _, .int .i64 ((q : Int) + 1), ⟨q + 1, by omega, by go_num, by rw [HSU.out]; rfl, bgoAlloc HBQ.out _⟩, rfl, rfl, rfl, rfl⟩
          case measure => simp [intOf]; omega
        · gi_wp2_with fail
          refine (CallsIn.inRound _ (callsIn_wide.2 (HCT.out _ (by repeat (first | exact Below.refl _ _ | assumption | refine bgo ?_ (by assumption) | refine bgoAlloc ?_ _ | refine bgoDrew ?_ | refine bgoSet ?_ (by simp; omega) _))))).mono ?_
          rintro e W7 ⟨rfl, hb7⟩
          obtain ⟨hc7, hf7⟩ := bcell hb7
          have HB7 := Lib.hid hb7
          have hz7 := hb7.size
          simp only [World.size_alloc] at hz7
          have hz8 : wr.heap.size < W7.heap.size := by omega
          clear hb7
          cases cb
          · gi_wp2_with fail
            refine (CallsIn.inRound _ (callsIn_wide.2 (HRT.out _))).mono ?_
            rintro e W8 ⟨rfl, hb8⟩
            have HB8 := Lib.hid hb8
            clear hb8
            gi_wp2_with fail
            go_roundw
            case rel => exact ⟨q + 1, by omega, by go_num, by rw [HSU.out]; rfl, bgo (bgo (bgoAlloc HBQ.out _) HB7.out) HB8.out⟩
            case measure => simp [intOf]; omega
          · gi_wp2_with fail
            go_roundw
            case rel => exact ⟨q + 1, by omega, by go_num, by rw [HSU.out]; rfl, bgo (bgoAlloc HBQ.out _) HB7.out⟩
            case measure => simp [intOf]; omega
      · have hql : q = h.readings.length := by omega
        have hokT : (List.range q).all (okAt h out (s0, rest)) = okT h out (toT (allL h)[k]) := by rw [HX.out, hql]; rfl
        rw [hokT]
        have hEr : Ext [mb] W' wr := HE6.out.trans (Ext.of_below hBq)
        have hJr := HST.out _ _ _ _ _ HJ6.out (Ext.of_below hBq) (fun m hm => .inl hm) hTq.work.cache
        have hPr : Priv l mb W.heap.size w1.heap.size rb w2.heap.size cap (h.start :: h.wet) Ms wr := HP6.out.kept hBq.size (fun p hp => hBq.block p (HP6.out.small p (by simp at hp ⊢; omega))) (fun m hm => .inl hm)
        have hrec := (hEr.block _ (Array.getElem?_eq_some_iff.1 HRC.out.1).1 (by simp; omega)).trans HRC.out.1
        have hdef := (hEr.block _ (Array.getElem?_eq_some_iff.1 HRC.out.2).1 (by simp; omega)).trans HRC.out.2
        have hkp : ∀ m ∈ Ms, m ∉ ([] : List Nat) → m < W1.heap.size → wr.heap[m]? = W1.heap[m]? := fun m hm _ hml =>
          (hEr.block m (by omega) (by have := HP.out.apart m hm; simp at this ⊢; omega)).trans (HKP.out m hm)
        have hszr : W1.heap.size ≤ wr.heap.size := by have := hEr.size; omega
        have HJR := Lib.hid hJr
        have HPR := Lib.hid hPr
        have HREC := Lib.hid (And.intro hrec (And.intro hdef (And.intro hkp hszr)))
        have HTQ := Lib.hid hTq
        have HBQ := Lib.hid hBq
        have HER := Lib.hid hEr
        cases hpv : okT h out (toT (allL h)[k])
        · have HPV := Lib.hid hpv
          clear hpv hokT hJr hPr hrec hdef hkp hTq hBq hEr hyl hst
          gi_wp2_with (refine skipR (by rfl) ?_; simp only [Act.put, List.setIfInBounds_toArray, List.set_cons_succ, List.set_cons_zero])
          exact ⟨HREC.out, HPR.out, by rw [cnt_no hk' HPV.out]; exact HJR.out⟩
        · obtain ⟨hcn, hcx⟩ := truthsL_at hk' hpv
          have hcy := cnt_yes hk' hpv
          have hslr : IntsAt wr (.slice (some ⟨ob, 1, none⟩) h.wet.length h.wet.length) rest := by
            refine HSR.out.kept fun b off n c hv hlt' => hEr.block b hlt' ?_
            cases hv
            have := HP.out.apart ob hob
            simp at this ⊢; omega
          have hobm : ob ≠ mb := by have := HP.out.apart ob hob; simp at this; omega
          obtain ⟨f1, t1, a1, bd1, hy1, hR1⟩ := HY.out (pvs mb W.heap.size w1.heap.size rb w2.heap.size ++ Ms) (cnt h out k) (.agg #[iv s0, .slice (some ⟨ob, 1, none⟩) h.wet.length h.wet.length]) wr hcn HJR.out
            (by rw [hcx, HX.out]; exact ⟨ob, by simp [toT, hrl], by simpa [toT, hrl] using hslr, List.mem_append_right _ hob, hobm⟩)
          have d0 := cell_of_block0 hPr.y
          have hd0 := World.block_lt_of_cell? wr _ d0
          have hk5r := (hBq.block b5 (Array.getElem?_eq_some_iff.1 HK5.out).1).trans HK5.out
          have hd5 := (Array.getElem?_eq_some_iff.1 hk5r).1
          have hg5r : ∀ i, wr.cell? ⟨b5, i, none⟩ = (#[iv s0, .slice (some ⟨ob, 1, none⟩) h.wet.length h.wet.length] : Array Value)[i]? := fun i => by
            simp only [World.cell?, hk5r]; rfl
          have HR1 := Lib.hid hR1
          have HCY := Lib.hid hcy
          have HREL := Lib.hid (And.intro (Array.getElem?_eq_some_iff.1 hrec).1 (Array.getElem?_eq_some_iff.1 hdef).1)
          clear hpv hokT hJr hPr hrec hdef hkp hTq hBq hEr hyl hst hslr hcx hk5r hR1 hcy
          gi_wp2_with fail
          refine HR1.out.mono ?_
          rintro e W8 ⟨⟨hkeep, hsz8⟩, ⟨rfl, hJ8⟩ | ⟨rfl, hJ8⟩⟩
          all_goals
            have HJ8 := Lib.hid hJ8
            have hP8 : Priv l mb W.heap.size w1.heap.size rb w2.heap.size cap (h.start :: h.wet) Ms W8 := HPR.out.kept hsz8 (fun p hp => hkeep p (List.mem_append_left _ (by simp at hp ⊢; omega)) (by simp at hp ⊢; omega) (HPR.out.small p (by simp at hp ⊢; omega))) (fun m hm => .inl hm)
            have hq8 : W8.heap[w2.heap.size + 1]? = some (.loop busy) ∧ W8.heap[w2.heap.size]? = some (.deferred (some [])) ∧ (∀ m ∈ Ms, m ∉ ([] : List Nat) → m < W1.heap.size → W8.heap[m]? = W1.heap[m]?) ∧ W1.heap.size ≤ W8.heap.size :=
              ⟨(hkeep _ (by simp) (by simp; omega) HREL.out.1).trans HREC.out.1, (hkeep _ (by simp) (by simp; omega) HREL.out.2).trans HREC.out.2.1,
                fun m hm h0 hml => (hkeep m (List.mem_append_right _ hm) (by have := HP.out.apart m hm; simp at this ⊢; omega) (by omega)).trans (HREC.out.2.2.1 m hm h0 hml), by omega⟩
            have HP8 := Lib.hid hP8
            have HQ8 := Lib.hid hq8
            clear hJ8 hP8 hq8 hkeep hy1
          · gi_wp2_with fail
            exact ⟨HQ8.out, HP8.out, by rw [HCY.out]; exact HJ8.out⟩
          · gi_wp2_with fail
            exact ⟨HQ8.out, rfl, HP8.out, HJ8.out⟩

end Go.Proofs.Ytoibfafmnaooaaa

/-
  The contract of an iterator value whose elements lie in memory that it writes again, and the law on a range over it. Lemmas over any program.
-/
import Derived.Test.YtechgmnkcijahaaFence
import Derived.RangeFuncRecord
import Derived.RangeFuncOwn
namespace Go.RG
open Go.RowKit

/-- THE CONTRACT. xs: the elements, in this order; E: how one is handed over; Ms: the blocks that the iterator turns (Old: those of them that lay before its call); Good: what it keeps true of these; Inv: what it asks of the world at every moment. J Ms (some k): k elements have come; J Ms none: a round has said 'no more'. -/
def SeqC {α : Type} (P : Program) (g : FuncId) (lb : Array Value) (xs : List α) (E : List Nat → α → Value → World → Prop) (Old : List Nat) (Good Inv : World → Prop) : Prop :=
  ∀ (l : Nat) (J : List Nat → Option Nat → World → Prop) (W : World),
    (∀ Ms s W1, J Ms s W1 → Inv W1) →
    (∀ Ms Ms' s W1 W2, J Ms s W1 → Ext Ms W1 W2 → (∀ m ∈ Ms', m ∈ Ms ∨ (W1.heap.size ≤ m ∧ m < W2.heap.size)) → Good W2 → J Ms' s W2) →
    (∀ Ms k v W1 (hk : k < xs.length), J Ms (some k) W1 → E Ms xs[k] v W1 → YieldAt Fence.wide 0 P l #[v] W1 fun e W' =>
       ((∀ m ∈ Ms, m ∉ Old → m < W1.heap.size → W'.heap[m]? = W1.heap[m]?) ∧ W1.heap.size ≤ W'.heap.size) ∧ ((e = .returned (.bool true) ∧ J Ms (some (k + 1)) W') ∨ (e = .returned (.bool false) ∧ J Ms none W'))) →
    J Old (some 0) W →
    Calls P g (#[.func (.yield l) #[] #[]] ++ lb) W fun e W' => (∃ v, e = .returned v) ∧ ∃ Ms, J Ms (some xs.length) W' ∨ J Ms none W'

/-- How a round's body may be left. -/
def postC (l D : Nat) (busy : Loop) (Ms Old : List Nat) (W1 : World) (Inext : World → Prop) (Ix : Code → World → Prop) : Exit → Act → World → Prop
  | .normal, _, W => (W.heap[l]? = some (.loop busy) ∧ W.heap[D]? = some (.deferred (some [])) ∧ (∀ m ∈ Ms, m ∉ Old → m < W1.heap.size → W.heap[m]? = W1.heap[m]?) ∧ W1.heap.size ≤ W.heap.size) ∧ Inext W
  | .ret, _, W => (W.heap[l]? = some (.loop busy) ∧ W.heap[D]? = some (.deferred (some [])) ∧ (∀ m ∈ Ms, m ∉ Old → m < W1.heap.size → W.heap[m]? = W1.heap[m]?) ∧ W1.heap.size ≤ W.heap.size) ∧ Ix .ret W
  | .exit id, _, W => (W.heap[l]? = some (.loop busy) ∧ W.heap[D]? = some (.deferred (some [])) ∧ (∀ m ∈ Ms, m ∉ Old → m < W1.heap.size → W.heap[m]? = W1.heap[m]?) ∧ W1.heap.size ≤ W.heap.size) ∧ Ix (.exit id) W
  | _, _, _ => False

theorem ext_put (W : World) (l : Nat) (o : Obj) : Ext [l] W (W.putObj l o) :=
  ⟨rfl, rfl, rfl, by simp, fun k _ hm => World.putObj_heap_other (by simpa using hm)⟩

theorem wpIn_rangeC {α : Type} {P : Program} {n : Nat} {g : Operand} {ps : Array Tmp} {assign body : Code} {Q : Exit → Act → World → Prop} {a : Act} {w : World} {gf : FuncId} {lb : Array Value} {xs : List α}
    {E : List Nat → α → Value → World → Prop} {Old : List Nat} {Good Inv : World → Prop} (hseq : SeqC P gf lb xs E Old Good Inv) (hg : a.eval g = .func (.func gf) #[] lb)
    (eg : ∀ args w, (callFunc gf args).run P w = .ok (.enter gf args) w) (hps : ps.size = 1) (hOld : ∀ m ∈ Old, m < w.heap.size)
    (I : List Nat → Nat → World → Prop) (Ix : Code → List Nat → World → Prop) (hInv : ∀ Ms k W, I Ms k W → Inv W) (hInvx : ∀ c Ms W, Ix c Ms W → Inv W)
    (hI : ∀ Ms Ms' k W1 W2, I Ms k W1 → Ext Ms W1 W2 → (∀ m ∈ Ms', m ∈ Ms ∨ (W1.heap.size ≤ m ∧ m < W2.heap.size)) → Good W2 → I Ms' k W2)
    (hIx : ∀ c Ms Ms' W1 W2, Ix c Ms W1 → Ext Ms W1 W2 → (∀ m ∈ Ms', m ∈ Ms ∨ (W1.heap.size ≤ m ∧ m < W2.heap.size)) → Good W2 → Ix c Ms' W2)
    (hIp : ∀ Ms k W r o, I Ms k W → r = w.heap.size ∨ r = w.heap.size + 1 → I Ms k (W.putObj r o))
    (hIxp : ∀ c Ms W r o, Ix c Ms W → r = w.heap.size ∨ r = w.heap.size + 1 → Ix c Ms (W.putObj r o))
    (h0 : ∀ o o', I Old 0 ((w.alloc o).alloc o'))
    (Mid : Act → List Nat → Nat → World → Act → World → Prop) (hMp : ∀ Ms k W1 a₁ W o, Mid a Ms k W1 a₁ W → Mid a Ms k W1 a₁ (W.putObj (w.heap.size + 1) o))
    (hassign : ∀ Ms k v W (hk : k < xs.length), I Ms k W → E Ms xs[k] v W → w.heap.size + 1 < W.heap.size →
      assign.wpIn (Fence.wide.inRound (w.heap.size + 1)) 0 P (Exit.then (fun a₁ W' => Mid a Ms k W a₁ W' ∧ (W'.heap[w.heap.size + 1]? = W.heap[w.heap.size + 1]? ∧ W'.heap[w.heap.size]? = W.heap[w.heap.size]?)) (fun _ _ _ => False))
        { tmps := (ps.zip #[v]).foldl (fun t (p, v) => t.setIfInBounds p v) a.tmps, defers := [] } W)
    (hbody : ∀ Ms k W1 a₁ W busy, k < xs.length → Mid a Ms k W1 a₁ W → W.heap[w.heap.size + 1]? = some (.loop busy) → W.heap[w.heap.size]? = some (.deferred (some [])) →
      body.wpIn (Fence.wide.inRound (w.heap.size + 1)) 0 P (postC (w.heap.size + 1) w.heap.size busy Ms Old W1 (I Ms (k + 1)) (fun c => Ix c Ms)) a₁ W)
    (hdone : ∀ Ms W, I Ms xs.length W → W.heap[w.heap.size]? = some (.deferred (some [])) → w.heap.size < W.heap.size → Q .normal { a with defers := { target := .collected w.heap.size, args := #[] } :: a.defers } W)
    (hstop : ∀ c Ms W, Ix c Ms W → W.heap[w.heap.size]? = some (.deferred (some [])) → w.heap.size < W.heap.size → c.wpIn Fence.wide n P Q { a with defers := { target := .collected w.heap.size, args := #[] } :: a.defers } W) :
    (Code.rangeFunc g ps assign body).wpIn Fence.wide n P Q a w := by
  refine wpIn_rangeFunc ?_
  intro fn _
  obtain ⟨rec, hrec⟩ : ∃ rec : LoopState → Option Code → Loop, rec = fun st pe => { state := st, pending := pe, fn, tmps := a.tmps, params := ps, assign, body, defers := w.heap.size } := ⟨_, rfl⟩
  obtain ⟨W1, hW1⟩ : ∃ W1, (w.alloc (.deferred (some []))).alloc (.loop (rec .ready none)) = W1 := ⟨_, rfl⟩
  have hL1 : W1.heap[w.heap.size + 1]? = some (.loop (rec .ready none)) := by
    rw [← hW1]; have := World.alloc_heap_new (w.alloc (.deferred (some []))) (.loop (rec .ready none)); rwa [World.size_alloc] at this
  have hK1 : W1.heap[w.heap.size]? = some (.deferred (some [])) := by
    rw [← hW1]; exact (Below.heap_alloc _ _ _ (by simp)).trans (World.alloc_heap_new w _)
  refine ⟨w.heap.size + 1, [{ target := .collected w.heap.size, args := #[] }], W1, { target := .fn (.func gf) lb, args := #[.func (.yield (w.heap.size + 1)) #[] #[]] }, W1, gf,
    #[.func (.yield (w.heap.size + 1)) #[] #[]] ++ lb, W1, ?_, ?_, fun _ _ => trivial, ?_, (fun h => by cases h), callsIn_wide.2 ?_⟩
  · rw [← hW1, hrec]; exact run_enterLoop_outer _ _ _ _ _
  · simp only [resolve, hg]
    simp [go_sem]
  · simp [invoke, go_sem, eg]
  · refine (hseq (w.heap.size + 1)
      (fun Ms s W => (w.heap.size + 1 ∉ Ms ∧ w.heap.size ∉ Ms) ∧ W.heap[w.heap.size]? = some (.deferred (some [])) ∧
        match s with
        | some k => I Ms k W ∧ W.heap[w.heap.size + 1]? = some (.loop (rec .ready none))
        | none => ∃ c, Ix c Ms W ∧ W.heap[w.heap.size + 1]? = some (.loop (rec .done (some c)))) W1 ?_ ?_ ?_ ?_).mono ?_
    · rintro Ms s W ⟨_, _, h⟩
      cases s with
      | some k => exact hInv _ _ _ h.1
      | none => obtain ⟨c, h, _⟩ := h; exact hInvx _ _ _ h
    · rintro Ms Ms' s Wa Wb ⟨⟨hm1, hm2⟩, hd, h⟩ hE hMs hG
      have hdl := (Array.getElem?_eq_some_iff.1 hd).1
      have hd' := (hE.block _ hdl hm2).trans hd
      have hnd : w.heap.size ∉ Ms' := fun x => by rcases hMs _ x with h | h; exact hm2 h; omega
      cases s with
      | some k =>
        have hll := (Array.getElem?_eq_some_iff.1 h.2).1
        exact ⟨⟨fun x => by rcases hMs _ x with h | h; exact hm1 h; omega, hnd⟩, hd', hI _ _ _ _ _ h.1 hE hMs hG, (hE.block _ hll hm1).trans h.2⟩
      | none =>
        obtain ⟨c, h, h2⟩ := h
        have hll := (Array.getElem?_eq_some_iff.1 h2).1
        exact ⟨⟨fun x => by rcases hMs _ x with h | h; exact hm1 h; omega, hnd⟩, hd', c, hIx _ _ _ _ _ h hE hMs hG, (hE.block _ hll hm1).trans h2⟩
    · rintro Ms k v W hk ⟨⟨hm1, hm2⟩, hd, hi, hl⟩ hEl
      have hlt : w.heap.size + 1 < W.heap.size := (Array.getElem?_eq_some_iff.1 hl).1
      have hy := run_yield (P := P) (args := #[v]) hl (by rw [hrec]; simp [hps])
      rw [hrec] at hy
      refine ⟨fn, _, assign, body, hy, roundIn_of_wpIn trivial (wpIn_mono (hassign Ms k v W hk hi hEl hlt) ?_)⟩
      clear hy
      rintro e a₁ W2 h
      cases e with
      | normal =>
        obtain ⟨hM, hl2, hd2⟩ := h
        rw [hl] at hl2
        rw [hd] at hd2
        have hlt2 := (Array.getElem?_eq_some_iff.1 hl2).1
        refine ⟨_, run_beginRound hl2 (by rw [hrec]), ?_⟩
        refine wpIn_mono (hbody Ms k W a₁ _ _ hk (hMp _ _ _ _ _ _ hM) (World.putObj_heap_same hlt2) ((World.putObj_heap_other (by omega)).trans hd2)) ?_
        have fin : ∀ (jump : Option Code) (W3 : World), W3.heap[w.heap.size + 1]? = some (.loop { rec .ready none with state := .busy }) → (∀ m ∈ Ms, m ∉ Old → m < W.heap.size → W3.heap[m]? = W.heap[m]?) → W.heap.size ≤ W3.heap.size → W3.heap[w.heap.size]? = some (.deferred (some [])) →
            (Instr.endRound (w.heap.size + 1) jump).run P W3 = .ok (.bool jump.isNone) (W3.putObj (w.heap.size + 1) (.loop (rec (if jump.isNone then .ready else .done) jump))) ∧
            ((∀ m ∈ Ms, m ∉ Old → m < W.heap.size → (W3.putObj (w.heap.size + 1) (.loop (rec (if jump.isNone then .ready else .done) jump))).heap[m]? = W.heap[m]?) ∧ W.heap.size ≤ (W3.putObj (w.heap.size + 1) (.loop (rec (if jump.isNone then .ready else .done) jump))).heap.size) ∧
            (W3.putObj (w.heap.size + 1) (.loop (rec (if jump.isNone then .ready else .done) jump))).heap[w.heap.size]? = some (.deferred (some [])) ∧
            (W3.putObj (w.heap.size + 1) (.loop (rec (if jump.isNone then .ready else .done) jump))).heap[w.heap.size + 1]? = some (.loop (rec (if jump.isNone then .ready else .done) jump)) := fun jump W3 h3 hm3 hs3 hd3 => by
          have hr := run_endRound (P := P) jump h3
          rw [hrec] at hr ⊢
          have hlt3 := (Array.getElem?_eq_some_iff.1 h3).1
          exact ⟨hr, ⟨fun m hm ho hml => (World.putObj_heap_other (fun e : m = w.heap.size + 1 => hm1 (by rw [← e]; exact hm))).trans (hm3 m hm ho hml), by simpa using hs3⟩, (World.putObj_heap_other (by omega)).trans hd3, World.putObj_heap_same hlt3⟩
        rintro e a3 W3 hp
        cases e with
        | normal =>
          obtain ⟨⟨h3, hd3, hm3, hs3⟩, hi3⟩ := hp
          obtain ⟨hr, hk3, hd4, hl4⟩ := fin none W3 h3 hm3 hs3 hd3
          exact ⟨_, _, hr, hk3, .inl ⟨rfl, ⟨hm1, hm2⟩, hd4, hIp _ _ _ _ _ hi3 (.inr rfl), hl4⟩⟩
        | ret =>
          obtain ⟨⟨h3, hd3, hm3, hs3⟩, hi3⟩ := hp
          obtain ⟨hr, hk3, hd4, hl4⟩ := fin (some .ret) W3 h3 hm3 hs3 hd3
          exact ⟨_, _, hr, hk3, .inr ⟨rfl, ⟨hm1, hm2⟩, hd4, .ret, hIxp _ _ _ _ _ hi3 (.inr rfl), hl4⟩⟩
        | exit id =>
          obtain ⟨⟨h3, hd3, hm3, hs3⟩, hi3⟩ := hp
          obtain ⟨hr, hk3, hd4, hl4⟩ := fin (some (.exit id)) W3 h3 hm3 hs3 hd3
          exact ⟨_, _, hr, hk3, .inr ⟨rfl, ⟨hm1, hm2⟩, hd4, .exit id, hIxp _ _ _ _ _ hi3 (.inr rfl), hl4⟩⟩
        | goto t => exact hp.elim
        | panic ch => exact hp.elim
        | outgrown => exact hp.elim
      | exit id => exact h.elim
      | goto t => exact h.elim
      | ret => exact h.elim
      | panic chain => exact h.elim
      | outgrown => exact h.elim
    · refine ⟨⟨fun x => by have := hOld _ x; omega, fun x => by have := hOld _ x; omega⟩, hK1, ?_, hL1⟩
      rw [← hW1]; exact h0 _ _
    · rintro e W2 ⟨⟨v, rfl⟩, Ms, ⟨_, hd, hi, hl⟩ | ⟨_, hd, c, hi, hl⟩⟩
      · refine ⟨none, _, by have := run_endLoop (P := P) hl (by rw [hrec]; simp); rw [hrec] at this; exact this, ?_⟩
        exact hdone Ms _ (hIp _ _ _ _ _ hi (.inr rfl)) ((World.putObj_heap_other (by omega)).trans hd) (by have := (Array.getElem?_eq_some_iff.1 hd).1; simpa using this)
      · refine ⟨some c, _, by have := run_endLoop (P := P) hl (by rw [hrec]; simp); rw [hrec] at this; exact this, ?_⟩
        exact hstop c Ms _ (hIxp _ _ _ _ _ hi (.inr rfl)) ((World.putObj_heap_other (by omega)).trans hd) (by have := (Array.getElem?_eq_some_iff.1 hd).1; simpa using this)

end Go.RG

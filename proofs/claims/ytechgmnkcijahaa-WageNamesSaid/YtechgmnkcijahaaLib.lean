/-
  Slices that read as lists of cells, in whatever world; append onto a slice of the call's own from whatever slice. Lemmas over any program.
-/
import Derived.WalkKit
import Derived.Deep.AppendSrc
import Derived.Test.YtechgmnkcijahaaRegion
namespace Go.SL
open Go.RowKit Go.RG

/-- v is a slice of n elements of size cells each, which hold xs. -/
def SlAt (size : Nat) (w : World) (v : Value) (n : Nat) (xs : List Value) : Prop :=
  xs.length = n * size ∧ ∃ o c, v = .slice o n c ∧ n ≤ c ∧ c ≤ maxLen ∧ (o = none → c = 0) ∧ ∀ a, o = some a → a.spot = none ∧ ∀ j u, xs[j]? = some u → w.cell? ⟨a.block, a.off + j, none⟩ = some u

theorem SlAt.nil (size : Nat) (w : World) : SlAt size w (.slice none 0 0) 0 [] := ⟨by simp, none, 0, rfl, Nat.le_refl _, by simp [maxLen], fun _ => rfl, fun a h => by cases h⟩

theorem SlAt.len {size : Nat} {w : World} {v : Value} {n : Nat} {xs : List Value} (h : SlAt size w v n xs) : n ≤ 9223372036854775807 := by
  obtain ⟨_, o, c, _, h1, h2, _⟩ := h
  simp only [maxLen] at h2; omega

/-- What a slice's cells lie in. -/
theorem SlAt.kept {size : Nat} {w w' : World} {v : Value} {n : Nat} {xs : List Value} (h : SlAt size w v n xs) (hk : ∀ b off n c, v = .slice (some ⟨b, off, none⟩) n c → b < w.heap.size → w'.heap[b]? = w.heap[b]?) : SlAt size w' v n xs := by
  obtain ⟨hl, o, c, rfl, h1, h2, h3, h4⟩ := h
  refine ⟨hl, o, c, rfl, h1, h2, h3, fun a ha => ?_⟩
  obtain ⟨hs, hc⟩ := h4 a ha
  obtain ⟨b, off, sp⟩ := a
  simp only at hs hc
  subst hs
  refine ⟨rfl, fun j u hj => ?_⟩
  have hcell := hc j u hj
  have hlt := World.block_lt_of_cell? w _ hcell
  rw [World.cell?_of_block (w := w) (hk b off n c (by rw [ha]) hlt)]
  exact hcell

theorem SlAt.below {size : Nat} {w w' : World} {v : Value} {n : Nat} {xs : List Value} (h : SlAt size w v n xs) {B : Nat} (hb : Below B w w') (hB : w.heap.size ≤ B) : SlAt size w' v n xs :=
  h.kept fun b _ _ _ _ hlt => hb.block b (by omega)

theorem SlAt.ext {size : Nat} {w w' : World} {v : Value} {n : Nat} {xs : List Value} (h : SlAt size w v n xs) {Ms : List Nat} (hE : Ext Ms w w') (hM : ∀ x ∈ Ms, v.ownBlock ≠ some x) : SlAt size w' v n xs :=
  h.kept fun b off n c hv hlt => hE.block b hlt fun hm => hM b hm (by rw [hv]; rfl)

theorem SlAt.alloc {size : Nat} {w : World} {v : Value} {n : Nat} {xs : List Value} (h : SlAt size w v n xs) (o : Obj) : SlAt size (w.alloc o) v n xs :=
  h.below ((Below.refl w.heap.size w).alloc (Nat.le_refl _) o) (Nat.le_refl _)
theorem SlAt.drew {size : Nat} {w : World} {v : Value} {n : Nat} {xs : List Value} (h : SlAt size w v n xs) : SlAt size w.drew v n xs := h

theorem SlAt.setCell {size : Nat} {w : World} {v : Value} {n : Nat} {xs : List Value} (h : SlAt size w v n xs) (a : Addr) (u : Value) (ha : v.ownBlock ≠ some a.block) : SlAt size (w.setCell a u) v n xs :=
  h.kept fun b off n c hv _ => Below.heap_setCell w a u b (fun e => ha (by rw [hv, ← e]; rfl))

/-- What the call owns reads as its cells. -/
theorem SlAt.of_owns {w : World} {base : Nat} {e : TypeId} {size : Nat} {v : Value} {n : Nat} {xs : List Value} (h : w.ownsRow base e size v n xs) : SlAt size w v n xs := by
  refine ⟨h.1, ?_⟩
  rcases h.2 with ⟨rfl, rfl⟩ | ⟨g, cap, cur, rfl, hb, hg, hn, hc, hs, ht⟩
  · exact ⟨none, 0, rfl, Nat.le_refl _, by simp [maxLen], fun _ => rfl, fun a h => by cases h⟩
  · refine ⟨_, cap, rfl, hn, hc, (fun h => by cases h), fun a ha => ?_⟩
    cases ha
    refine ⟨rfl, fun j u hj => ?_⟩
    simp only [Nat.zero_add]
    rw [cell_of_row w g j cur e (0, 0) hg]
    rw [← ht, List.getElem?_take] at hj
    split at hj
    · simpa using hj
    · cases hj

/-- A slice type, its element type, and that one's row of the table. -/
structure SliceT (P : Program) (t e : TypeId) (z : Value) (size bytes : Nat) : Prop where
  und : P.underlying t = some (.slice e)
  info : (P.info? e).map (fun i => (i.zero, i.size, i.bytes)) = some (some z, size, bytes)
  cells : z.cells.size = size
  pos : 0 < size

theorem SlAt.news {size : Nat} {w : World} {v : Value} {n : Nat} {xs : List Value} (h : SlAt size w v n xs) : ∃ o c, v = .slice o n c ∧ xs.length = n * size ∧ (o = none → c = 0 ∧ n = 0) ∧ ∀ a, o = some a → ∀ j u, xs[j]? = some u → w.cell? (a.add j) = some u := by
  obtain ⟨hl, o, c, rfl, h1, h2, h3, h4⟩ := h
  refine ⟨o, c, rfl, hl, fun ho => ⟨h3 ho, by have := h3 ho; omega⟩, fun a ha j u hj => ?_⟩
  obtain ⟨hs, hc⟩ := h4 a ha
  obtain ⟨b, off, sp⟩ := a
  simp only at hs hc
  subst hs
  rw [Addr.add_lit]
  exact hc j u hj

/-- **append ONTO A SLICE OF THE CALL's OWN, FROM WHATEVER SLICE.** -/
theorem run_append {P : Program} {w : World} {t e : TypeId} {z : Value} {size bytes : Nat} (hT : SliceT P t e z size bytes) (ty : TypeId) {base : Nat} {v : Value} {n : Nat} {xs : List Value} (hown : w.ownsRow base e size v n xs)
    {src : Value} {k : Nat} {news : List Value} (hsrc : SlAt size w src k news) (h1 : ∀ u ∈ news, u.oneCell' = true) (hb : (n + k) * bytes ≤ 140737488355328) (h63 : n + k ≤ 9223372036854775807) (hbase : base ≤ w.heap.size) :
    ∃ v' w', (Builtin.append_ #[t, t] ty #[v, src]).run P w = .ok v' w' ∧ w'.ownsRow base e size v' (n + k) (xs ++ news) ∧ w.grownBy w' v.ownBlock := by
  obtain ⟨i, hi, hz, hs, hby⟩ := info_parts hT.info
  obtain ⟨o, c, rfl, hl, hn, hc⟩ := hsrc.news
  cases o with
  | none =>
    obtain ⟨rfl, rfl⟩ := hn rfl
    have : news = [] := List.eq_nil_of_length_eq_zero (by simpa using hl)
    subst this
    have hrun := run_append_owned_none (P := P) w base t ty e i size hT.und hi v n xs hown
    exact ⟨v, w, hrun, by simpa using hown, World.grownBy.refl _ _⟩
  | some a =>
    obtain ⟨v', w', h, h2, h3, _⟩ := run_append_own (P := P) w base t ty e i z size bytes hT.und hi hz hs hby hT.cells hT.pos v n xs hown a k c news hl (hc a rfl) h1 (by simp only [maxLen]; omega) hb hbase
    exact ⟨v', w', h, h2, h3⟩

theorem does_append {P : Program} {w : World} {t e : TypeId} {z : Value} {size bytes : Nat} (hT : SliceT P t e z size bytes) {o : Oper} {ρ : Operand → Value} {s x : Operand}
    (hop : o.op = Op.call { callee := Callee.builtin Builtin.append, args := #[s, x], argTypes := #[t, t] }) {base : Nat} {v : Value} {n : Nat} {xs : List Value} (hs : ρ s = v) (hown : w.ownsRow base e size v n xs)
    {src : Value} {k : Nat} {news : List Value} (hx : ρ x = src) (hsrc : SlAt size w src k news) (h1 : ∀ u ∈ news, u.oneCell' = true) (hb : (n + k) * bytes ≤ 140737488355328) (h63 : n + k ≤ 9223372036854775807) (hbase : base ≤ w.heap.size) :
    Does P o ρ w (fun v' w' => w'.ownsRow base e size v' (n + k) (xs ++ news) ∧ w.grownBy w' v.ownBlock) := by
  obtain ⟨v', w', hrun, h2, h3⟩ := run_append (P := P) hT o.type hown hsrc h1 hb h63 hbase
  refine does_value (W' := w') v' ?_ ⟨h2, h3⟩
  simp [execOp, hop, resolve, invoke, builtin, hs, hx, hrun, Result.andThen]

theorem wpList_append {P : Program} {w : World} {ops : Array Oper} {rest : List Oper} {o : Oper} {a : Act} {Q : Exit → Act → World → Prop} (hg : o.guard = none) (s x : Operand) {t e : TypeId} {z : Value} {size bytes : Nat} (hT : SliceT P t e z size bytes)
    (hop : o.op = Op.call { callee := Callee.builtin Builtin.append, args := #[s, x], argTypes := #[t, t] }) (base : Nat) (v : Value) (n : Nat) (xs : List Value) (hs : a.eval s = v) (hown : w.ownsRow base e size v n xs)
    (src : Value) (k : Nat) (news : List Value) (hx : a.eval x = src) (hsrc : SlAt size w src k news) (h1 : ∀ u ∈ news, u.oneCell' = true) (hb : (n + k) * bytes ≤ 140737488355328) (h63 : n + k ≤ 9223372036854775807) (hbase : base ≤ w.heap.size)
    (hK : ∀ v' w', w'.ownsRow base e size v' (n + k) (xs ++ news) → w.grownBy w' v.ownBlock → wpList P ops Q rest (a.put o.dst v') w') : wpList P ops Q (o :: rest) a w := by
  refine wpList_plain hg fun K hK' => ?_
  exact does_wp (does_append (P := P) hT hop hs hown hx hsrc h1 hb h63 hbase) fun v' w' ⟨h2, h3⟩ => hK' _ _ (hK v' w' h2 h3)

theorem ext_of_grown {w w' : World} {row : Option Nat} (h : w.grownBy w' row) : Ext row.toList w w' :=
  ⟨h.os, h.tape, h.output, h.size, fun k hk hm => h.block k hk (fun e => hm (by rw [← e]; simp))⟩

/-! ### Lists of numbers, of pairs, of triples -/
def intCells (l : List Int) : List Value := l.map (Value.int .i64)
def pairCells (l : List (Int × Int)) : List Value := l.flatMap fun r => [.int .i64 r.1, .int .i64 r.2]
def tripleCells (l : List (Int × Int × Int)) : List Value := l.flatMap fun r => [.int .i64 r.1, .int .i64 r.2.1, .int .i64 r.2.2]

theorem one_ints (l : List Int) : ∀ u ∈ intCells l, u.oneCell' = true := by
  intro u hu; obtain ⟨_, _, rfl⟩ := List.mem_map.1 hu; rfl
theorem one_pairs (l : List (Int × Int)) : ∀ u ∈ pairCells l, u.oneCell' = true := by
  intro u hu
  obtain ⟨r, _, h⟩ := List.mem_flatMap.1 hu
  rcases List.mem_cons.1 h with rfl | h
  · rfl
  · rw [List.mem_singleton.1 h]; rfl
theorem one_triples (l : List (Int × Int × Int)) : ∀ u ∈ tripleCells l, u.oneCell' = true := by
  intro u hu
  obtain ⟨r, _, h⟩ := List.mem_flatMap.1 hu
  rcases List.mem_cons.1 h with rfl | h
  · rfl
  · rcases List.mem_cons.1 h with rfl | h
    · rfl
    · rw [List.mem_singleton.1 h]; rfl

theorem flat_get {α : Type} (f : α → List Value) (sz : Nat) (hf : ∀ x, (f x).length = sz) : ∀ (l : List α) (k j : Nat) (hk : k < l.length), j < sz → (l.flatMap f)[k * sz + j]? = (f l[k])[j]? := by
  intro l
  induction l with
  | nil => intro k j hk; simp at hk
  | cons x l ih =>
    intro k j hk hj
    cases k with
    | zero => simp [List.flatMap_cons, List.getElem?_append_left (show j < (f x).length by rw [hf]; exact hj)]
    | succ k =>
      have e : (k + 1) * sz + j = (f x).length + (k * sz + j) := by rw [hf, Nat.add_mul]; omega
      rw [List.flatMap_cons, e, List.getElem?_append_right (by omega), Nat.add_sub_cancel_left, ih k j (by simpa using hk) hj]
      rfl

abbrev IntsAt (w : World) (v : Value) (l : List Int) : Prop := SlAt 1 w v l.length (intCells l)
abbrev PairsAt (w : World) (v : Value) (l : List (Int × Int)) : Prop := SlAt 2 w v l.length (pairCells l)
abbrev TriplesAt (w : World) (v : Value) (l : List (Int × Int × Int)) : Prop := SlAt 3 w v l.length (tripleCells l)

theorem SlAt.open {size : Nat} {w : World} {v : Value} {n : Nat} {xs : List Value} (h : SlAt size w v n xs) : ∃ o c, v = .slice o n c := by
  obtain ⟨_, o, c, hv, _⟩ := h; exact ⟨o, c, hv⟩

theorem IntsAt.cell {w : World} {o : Option Addr} {n c : Nat} {l : List Int} (h : SlAt 1 w (.slice o n c) n (intCells l)) {k : Nat} (hk : k < l.length) :
    ∃ b off, o = some ⟨b, off, none⟩ ∧ b < w.heap.size ∧ w.cell? ⟨b, off + k, none⟩ = some (.int .i64 l[k]) := by
  obtain ⟨hl, o', c', hv, h1, h2, h3, h4⟩ := h
  cases hv
  have hn : n = l.length := by simpa [intCells] using hl.symm
  cases o with
  | none => have := h3 rfl; omega
  | some a =>
    obtain ⟨b, off, sp⟩ := a
    obtain ⟨hs, hc⟩ := h4 _ rfl
    simp only at hs hc
    subst hs
    have := hc k (.int .i64 l[k]) (by simp [intCells, hk])
    exact ⟨b, off, rfl, World.block_lt_of_cell? w _ this, this⟩

theorem PairsAt.cell {w : World} {o : Option Addr} {n c : Nat} {l : List (Int × Int)} (h : SlAt 2 w (.slice o n c) n (pairCells l)) {k : Nat} (hk : k < l.length) :
    ∃ b off, o = some ⟨b, off, none⟩ ∧ b < w.heap.size ∧ w.cell? ⟨b, off + k * 2, none⟩ = some (.int .i64 l[k].1) ∧ w.cell? ⟨b, off + k * 2 + 1, none⟩ = some (.int .i64 l[k].2) := by
  obtain ⟨hl, o', c', hv, h1, h2, h3, h4⟩ := h
  cases hv
  have hlen : (pairCells l).length = l.length * 2 := by simp [pairCells, List.length_flatMap, List.map_const', List.sum_replicate_nat]
  have hn : n = l.length := by omega
  cases o with
  | none => have := h3 rfl; omega
  | some a =>
    obtain ⟨b, off, sp⟩ := a
    obtain ⟨hs, hc⟩ := h4 _ rfl
    simp only at hs hc
    subst hs
    have h0 := hc (k * 2 + 0) (.int .i64 l[k].1) (by unfold pairCells; rw [flat_get _ 2 (fun _ => rfl) l k 0 hk (by omega)]; rfl)
    have h1 := hc (k * 2 + 1) (.int .i64 l[k].2) (by unfold pairCells; rw [flat_get _ 2 (fun _ => rfl) l k 1 hk (by omega)]; rfl)
    rw [Nat.add_zero] at h0
    rw [← Nat.add_assoc] at h1
    exact ⟨b, off, rfl, World.block_lt_of_cell? w _ h0, h0, h1⟩

theorem TriplesAt.cell {w : World} {o : Option Addr} {n c : Nat} {l : List (Int × Int × Int)} (h : SlAt 3 w (.slice o n c) n (tripleCells l)) {k : Nat} (hk : k < l.length) :
    ∃ b off, o = some ⟨b, off, none⟩ ∧ b < w.heap.size ∧ w.cell? ⟨b, off + k * 3, none⟩ = some (.int .i64 l[k].1) ∧ w.cell? ⟨b, off + k * 3 + 1, none⟩ = some (.int .i64 l[k].2.1) ∧ w.cell? ⟨b, off + k * 3 + 2, none⟩ = some (.int .i64 l[k].2.2) := by
  obtain ⟨hl, o', c', hv, h1, h2, h3, h4⟩ := h
  cases hv
  have hlen : (tripleCells l).length = l.length * 3 := by simp [tripleCells, List.length_flatMap, List.map_const', List.sum_replicate_nat]
  have hn : n = l.length := by omega
  cases o with
  | none => have := h3 rfl; omega
  | some a =>
    obtain ⟨b, off, sp⟩ := a
    obtain ⟨hs, hc⟩ := h4 _ rfl
    simp only at hs hc
    subst hs
    have h0 := hc (k * 3 + 0) (.int .i64 l[k].1) (by unfold tripleCells; rw [flat_get _ 3 (fun _ => rfl) l k 0 hk (by omega)]; rfl)
    have h1 := hc (k * 3 + 1) (.int .i64 l[k].2.1) (by unfold tripleCells; rw [flat_get _ 3 (fun _ => rfl) l k 1 hk (by omega)]; rfl)
    have h2 := hc (k * 3 + 2) (.int .i64 l[k].2.2) (by unfold tripleCells; rw [flat_get _ 3 (fun _ => rfl) l k 2 hk (by omega)]; rfl)
    rw [Nat.add_zero] at h0
    rw [← Nat.add_assoc] at h1 h2
    exact ⟨b, off, rfl, World.block_lt_of_cell? w _ h0, h0, h1, h2⟩

theorem bcell {W w1 : World} (hb : Below W.heap.size W w1) : (∀ b o, b < W.heap.size → w1.cell? ⟨b, o, none⟩ = W.cell? ⟨b, o, none⟩) ∧ (∀ b o, b < W.heap.size → w1.frozen? ⟨b, o, none⟩ = W.frozen? ⟨b, o, none⟩) :=
  ⟨fun b o h => hb.cell (p := ⟨b, o, none⟩) h, fun b o h => hb.frozen (p := ⟨b, o, none⟩) h⟩

/-! ### The frame of a call, step by step -/
theorem bgo {w a b : World} (h : Below w.heap.size w a) (k : Below a.heap.size a b) : Below w.heap.size w b := h.trans (k.mono h.size)
theorem bgoAlloc {w a : World} (h : Below w.heap.size w a) (o : Obj) : Below w.heap.size w (a.alloc o) := h.alloc h.size o
theorem bgoDrew {w a : World} (h : Below w.heap.size w a) : Below w.heap.size w a.drew := h.drew
theorem bgoSet {w a : World} (h : Below w.heap.size w a) {p : Addr} (hp : w.heap.size ≤ p.block) (u : Value) : Below w.heap.size w (a.setCell p u) := h.setCell hp u

/-- It returns v; nothing that was there has turned. -/
def PV (v : Value) (w : World) (e : Ending) (w' : World) : Prop := e = .returned v ∧ Below w.heap.size w w'

/-! ### A slice searched by a function value: what comes back -/
/-- The first of n for which p says yes, or none; I (k): k have been asked. -/
def IdxPost (n : Nat) (p : Nat → Bool) (I : Nat → World → Prop) (yes : Nat → Value) (no : Value) (e : Ending) (W : World) : Prop :=
  ∃ k, k ≤ n ∧ (∀ j, j < k → p j = false) ∧ ((k < n ∧ p k = true ∧ e = .returned (yes k) ∧ I (k + 1) W) ∨ (k = n ∧ e = .returned no ∧ I n W))

theorem IdxPost.all {n : Nat} {p : Nat → Bool} {I : Nat → World → Prop} {a b : Bool} {e : Ending} {W : World} (h : IdxPost n p I (fun _ => .bool a) (.bool b) e W) :
    (e = .returned (.bool (if (List.range n).any p then a else b))) ∧ ∃ k, k ≤ n ∧ I k W := by
  obtain ⟨k, hk, hno, ⟨hlt, hp, rfl, hI⟩ | ⟨rfl, rfl, hI⟩⟩ := h
  · have : (List.range n).any p = true := List.any_eq_true.2 ⟨k, by simpa using hlt, hp⟩
    rw [this]
    exact ⟨rfl, k + 1, hlt, hI⟩
  · have : (List.range k).any p = false := by
      rw [List.any_eq_false]
      intro x hx
      rw [hno x (by simpa using hx)]; simp
    rw [this]
    exact ⟨rfl, k, Nat.le_refl _, hI⟩

/-- What lies from block B on, and lay there, lies as it lay. -/
structure FromOn (B : Nat) (w w' : World) : Prop where
  size : w.heap.size ≤ w'.heap.size
  block : ∀ k, B ≤ k → k < w.heap.size → w'.heap[k]? = w.heap[k]?

theorem FromOn.of_below {B : Nat} {w w' : World} (h : Below w.heap.size w w') : FromOn B w w' := ⟨h.size, fun k _ hk => h.block k hk⟩
theorem FromOn.of_ext {B : Nat} {Ms : List Nat} {w w' : World} (h : Ext Ms w w') (hM : ∀ x ∈ Ms, x < B) : FromOn B w w' :=
  ⟨h.size, fun k hB hk => h.block k hk (fun hm => by have := hM k hm; omega)⟩
theorem FromOn.trans {B : Nat} {a b c : World} (h : FromOn B a b) (k : FromOn B b c) : FromOn B a c :=
  ⟨Nat.le_trans h.size k.size, fun i hB hi => (k.block i hB (Nat.lt_of_lt_of_le hi h.size)).trans (h.block i hB hi)⟩

theorem cell_of_block0 {w : World} {b : Nat} {v : Value} {t : TypeId} {fr : Nat × Nat} (h : w.heap[b]? = some (.cells #[v] t fr)) : w.cell? ⟨b, 0, none⟩ = some v := by
  simp [World.cell?, h]

/-- A whole block read as a slice. -/
theorem SlAt.of_block {w : World} {b : Nat} {cs : Array Value} {t : TypeId} {fr : Nat × Nat} (size n : Nat) (h : w.heap[b]? = some (.cells cs t fr)) (hn : cs.size = n * size) (hm : n ≤ maxLen) : SlAt size w (.slice (some ⟨b, 0, none⟩) n n) n cs.toList := by
  refine ⟨by simpa using hn, _, n, rfl, Nat.le_refl _, hm, (fun h => by cases h), fun a ha => ?_⟩
  cases ha
  refine ⟨rfl, fun j u hj => ?_⟩
  simp only [Nat.zero_add]
  simp only [World.cell?, h]
  simpa using hj

/-- It returns a slice that reads so; nothing that was there has turned. -/
def PSl (size n : Nat) (xs : List Value) (w : World) (e : Ending) (w' : World) : Prop := ∃ v, e = .returned v ∧ SlAt size w' v n xs ∧ Below w.heap.size w w'

theorem owns_block {w : World} {base g : Nat} {cs : Array Value} {e : TypeId} {size n : Nat} (h : w.heap[g]? = some (.cells cs e (0, 0))) (hn : cs.size = n * size) (hb : base ≤ g) (hm : n ≤ maxLen) :
    w.ownsRow base e size (.slice (some ⟨g, 0, none⟩) n n) n cs.toList :=
  ⟨by simpa using hn, .inr ⟨g, n, cs, rfl, hb, h, Nat.le_refl _, hm, hn, by rw [List.take_of_length_le (by simp; omega)]⟩⟩

theorem heap_new0 (w : World) (A : Obj) : (w.alloc A).heap[w.heap.size]? = some A := heap_alloc_new w A
theorem heap_new1 (w : World) (A B : Obj) : ((w.alloc A).alloc B).heap[w.heap.size + 1]? = some B := by
  have := heap_alloc_new (w.alloc A) B; rwa [World.size_alloc] at this
theorem heap_new2 (w : World) (A B C : Obj) : (((w.alloc A).alloc B).alloc C).heap[w.heap.size + 2]? = some C := by
  have := heap_alloc_new ((w.alloc A).alloc B) C; rwa [World.size_alloc, World.size_alloc] at this

theorem set_block {w : World} {b o : Nat} {cs : Array Value} {t : TypeId} {fr : Nat × Nat} (h : w.heap[b]? = some (.cells cs t fr)) (u : Value) :
    (w.setCell ⟨b, o, none⟩ u).heap[b]? = some (.cells (cs.setIfInBounds o u) t fr) := by
  simp [World.setCell, Array.getElem?_modify, h]

theorem ext_set (w : World) (a : Addr) (u : Value) : Ext [a.block] w (w.setCell a u) :=
  ⟨rfl, rfl, rfl, by simp [World.setCell], fun k _ hm => Below.heap_setCell w a u k (by simpa using hm)⟩

theorem range_all {α : Type} (l : List α) (q : α → Bool) (d : α) : (List.range l.length).all (fun k => q (l.getD k d)) = l.all q := by
  induction l with
  | nil => rfl
  | cons x l ih =>
    rw [List.length_cons, List.range_succ_eq_map, List.all_cons, List.all_map, List.all_cons, ← ih]
    rfl

/-- A slice is left alone by whatever turns blocks that hold no cells. -/
theorem SlAt.ext_other {size : Nat} {w w' : World} {v : Value} {n : Nat} {xs : List Value} (h : SlAt size w v n xs) {Ms : List Nat} (hE : Ext Ms w w') (hM : ∀ x ∈ Ms, ∀ o, w.cell? ⟨x, o, none⟩ = none) : SlAt size w' v n xs := by
  obtain ⟨hl, o, c, rfl, h1, h2, h3, h4⟩ := h
  refine ⟨hl, o, c, rfl, h1, h2, h3, fun a ha => ?_⟩
  obtain ⟨hs, hc⟩ := h4 a ha
  obtain ⟨b, off, sp⟩ := a
  simp only at hs hc
  subst hs
  refine ⟨rfl, fun j u hj => ?_⟩
  have hcell := hc j u hj
  have hlt := World.block_lt_of_cell? w _ hcell
  rw [hE.cell b _ hlt (fun hm => by rw [hM b hm] at hcell; cases hcell)]
  exact hcell

theorem _root_.Go.RG.Ext.set {Ms : List Nat} {w W : World} (h : Ext Ms w W) {p : Addr} (hp : w.heap.size ≤ p.block) (u : Value) : Ext Ms w (W.setCell p u) :=
  ⟨h.os, h.tape, h.output, by have := h.size; simp [World.setCell]; omega, fun k hk hm => (Below.heap_setCell W p u k (by omega)).trans (h.block k hk hm)⟩
theorem _root_.Go.RG.Ext.alloc {Ms : List Nat} {w W : World} (h : Ext Ms w W) (o : Obj) : Ext Ms w (W.alloc o) :=
  ⟨h.os, h.tape, h.output, by have := h.size; simp; omega, fun k hk hm => (Below.heap_alloc W o k (by have := h.size; omega)).trans (h.block k hk hm)⟩
theorem _root_.Go.RG.Ext.go {Ms : List Nat} {w a b : World} (h : Ext Ms w a) (k : Ext Ms a b) : Ext Ms w b := h.trans k
theorem _root_.Go.RG.Ext.bel {Ms : List Nat} {w a b : World} (h : Ext Ms w a) (k : Below a.heap.size a b) : Ext Ms w b := h.trans (Ext.of_below k)

theorem set_ints (l : List Int) (k : Nat) (x : Int) : (intCells l).toArray.setIfInBounds k (.int .i64 x) = (intCells (l.set k x)).toArray := by
  simp [intCells, List.map_set]

theorem cell_of_ints {w : World} {b : Nat} {l : List Int} {t : TypeId} {fr : Nat × Nat} (h : w.heap[b]? = some (.cells (intCells l).toArray t fr)) {k : Nat} (hk : k < l.length) : w.cell? ⟨b, k, none⟩ = some (.int .i64 l[k]) := by
  simp [World.cell?, h, intCells, hk]
theorem frozen_of_block {w : World} {b : Nat} {cs : Array Value} {t : TypeId} (h : w.heap[b]? = some (.cells cs t (0, 0))) (k : Nat) : w.frozen? ⟨b, k, none⟩ = false := by
  simp [World.frozen?, h]

/-- The first n elements of a block read as a slice. -/
theorem SlAt.of_prefix {w : World} {b : Nat} {cs : Array Value} {t : TypeId} {fr : Nat × Nat} (n c : Nat) (h : w.heap[b]? = some (.cells cs t fr)) (hn : n ≤ cs.size) (hc : n ≤ c) (hm : c ≤ maxLen) : SlAt 1 w (.slice (some ⟨b, 0, none⟩) n c) n (cs.toList.take n) := by
  refine ⟨by simp; omega, _, c, rfl, hc, hm, (fun h => by cases h), fun a ha => ?_⟩
  cases ha
  refine ⟨rfl, fun j u hj => ?_⟩
  simp only [Nat.zero_add]
  simp only [World.cell?, h]
  rw [List.getElem?_take] at hj
  split at hj
  · simpa using hj
  · cases hj

end Go.SL

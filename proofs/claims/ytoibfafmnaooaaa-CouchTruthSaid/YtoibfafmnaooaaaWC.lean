/-
  Arrays of numbers as elements of a slice: a load, a comparison; append in a fence. Lemmas over any program.
  Contracts of package couch, sixteenth part: shortest.
  Contracts of package couch, seventeenth part: shortest's add.
  Contracts of package couch, eighteenth part: shortest.
  Contracts of package couch, nineteenth part: every.
-/
import Derived.WalkKit
import Derived.WalkLawsBesides
import Derived.WalkSpells
import Derived.Outline
import Derived.Handy
import Derived.KernelRfl
import Derived.Lib.Hide
import Derived.Test.YtoibfafmnaooaaaFence
import Derived.Deep.MidRow
import Derived.Laws.StructEq
import Derived.Maps.AppendAt
import Derived.Test.YtoibfafmnaooaaaWB
import Derived.WalkMore
import Derived.Deep.LoopGhost
import Derived.OwnWalkIn
namespace Go.SL
open Go.RowKit Go.RG

theorem exec_load_mid {P : Program} {o : Oper} {ρ : Operand → Value} {W : World} (t : TypeId) (x : Operand) (ho : o.op = .load t x) (b off : Nat) (hx : ρ x = .pointer (some ⟨b, off, none⟩)) (cs : List Value) (d : TypeDesc)
    (hc : W.rangeAt b off cs) (hu : P.underlying t = some d) (hd : d.isRow = true) (hi : (P.info? t).map (·.size) = some cs.length) : (execOp ρ o).run P W = .ok (.value (.agg cs.toArray)) W := by
  unfold execOp
  simp only [ho, hx, Instr.loadAt, Instr.sureAddr, Sem.run_bind, Sem.run_pure, Result.andThen_ok, run_loadVar_mid W b off t cs d hc hu hd hi]

theorem all_range_ints : ∀ (xs ys : List Int), xs.length = ys.length → ((List.range xs.length).all fun i => xs.getD i 0 == ys.getD i 0) = (xs == ys)
  | [], [], _ => rfl
  | x :: xs, y :: ys, h => by
    have ih := all_range_ints xs ys (by simpa using h)
    rw [List.length_cons, List.range_succ_eq_map, List.all_cons, List.all_map]
    simp only [List.getD_cons_zero, Function.comp_def, List.getD_cons_succ, ih]
    simp [List.cons_beq_cons]
  | [], _ :: _, h => by simp at h
  | _ :: _, [], h => by simp at h

theorem run_equalIn_ints {P : Program} (w : World) (d : Nat) (t e : TypeId) (n : Nat) (ht : P.underlying t = some (.array n e)) (he : P.underlying e = some (.int .i64)) (hsz : ∀ w, (sizeOf e).run P w = .ok 1 w)
    (xs ys : List Int) (hx : xs.length = n) (hy : ys.length = n) :
    (Op.equalIn (d + 2) t (.agg (intCells xs).toArray) (.agg (intCells ys).toArray)).run P w = .ok (xs == ys) w := by
  rw [← all_range_ints xs ys (hx.trans hy.symm), hx, List.range_eq_range', Op.equalIn]
  simp only [Sem.run_bind, run_underlying ht, Result.andThen_ok, hsz, Std.Legacy.Range.forIn_eq_forIn_range', Std.Legacy.Range.size, Nat.sub_zero, Nat.add_sub_cancel, Nat.div_one]
  have hl : ∀ i ∈ List.range' 0 n 1, i < n := fun i hi => by simpa using (List.mem_range'_1.1 hi).2
  generalize List.range' 0 n 1 = l at hl ⊢
  induction l with
  | nil => simp
  | cons i l ih =>
    have hi : i < n := hl i (by simp)
    have px : (part e (intCells xs).toArray (i * 1)).run P w = .ok (.int .i64 (xs.getD i 0)) w := by
      simp [part, isAgg, run_underlying he, intCells, List.getD, List.getElem?_eq_getElem (show i < xs.length by omega)]
    have py : (part e (intCells ys).toArray (i * 1)).run P w = .ok (.int .i64 (ys.getD i 0)) w := by
      simp [part, isAgg, run_underlying he, intCells, List.getD, List.getElem?_eq_getElem (show i < ys.length by omega)]
    have pe : (Op.equalIn (d + 1) e (.int .i64 (xs.getD i 0)) (.int .i64 (ys.getD i 0))).run P w = .ok (xs.getD i 0 == ys.getD i 0) w := run_equalIn_int w d e .i64 .i64 _ _ he
    simp only [List.forIn_cons, Sem.run_bind, px, py, pe, Result.andThen_ok, List.all_cons]
    cases hb : (xs.getD i 0 == ys.getD i 0)
    · simp
    · simp only [Bool.not_true, Bool.false_eq_true, if_false, Sem.run_pure, Result.andThen_ok, Bool.true_and]
      exact ih fun j hj => hl j (by simp [hj])

theorem run_neq_ints {P : Program} (w : World) (t e : TypeId) (n : Nat) (ht : P.underlying t = some (.array n e)) (he : P.underlying e = some (.int .i64)) (hsz : ∀ w, (sizeOf e).run P w = .ok 1 w)
    (xs ys : List Int) (hx : xs.length = n) (hy : ys.length = n) :
    (binOp .neq t (.agg (intCells xs).toArray) (.agg (intCells ys).toArray)).run P w = .ok (.bool (!(xs == ys))) w := by
  rw [run_neq_struct, run_equalIn_ints w 9998 t e n ht he hsz xs ys hx hy]
  rfl

theorem exec_neq_ints {P : Program} {o : Oper} {ρ : Operand → Value} {W : World} (t e tb : TypeId) (n : Nat) (x y : Operand) (ho : o.op = .binOp .neq t x y tb) (ht : P.underlying t = some (.array n e)) (he : P.underlying e = some (.int .i64)) (hsz : ∀ w, (sizeOf e).run P w = .ok 1 w)
    (hm : P.eqGuardType P.depth t = false) (xs ys : List Int) (hx : ρ x = .agg (intCells xs).toArray) (hy : ρ y = .agg (intCells ys).toArray) (hxl : xs.length = n) (hyl : ys.length = n) :
    (execOp ρ o).run P W = .ok (.value (.bool (!(xs == ys)))) W := by
  unfold execOp
  simp only [ho, hx, hy, Sem.run_bind, run_eqGuard_agg W .neq t x y _ _ hm, Result.andThen_ok, run_neq_ints W t e n ht he hsz xs ys hxl hyl, Sem.run_pure]

/-- append, with the block that the new slice lies in. -/
theorem run_append_at {P : Program} {w : World} {t e : TypeId} {z : Value} {size bytes : Nat} (hT : SliceT P t e z size bytes) (ty : TypeId) {base : Nat} {v : Value} {n : Nat} {xs : List Value} (hown : w.ownsRow base e size v n xs)
    {src : Value} {k : Nat} {news : List Value} (hsrc : SlAt size w src k news) (h1 : ∀ u ∈ news, u.oneCell' = true) (hb : (n + k) * bytes ≤ 140737488355328) (h63 : n + k ≤ 9223372036854775807) (hbase : base ≤ w.heap.size) :
    ∃ v' w', (Builtin.append_ #[t, t] ty #[v, src]).run P w = .ok v' w' ∧ w'.ownsRow base e size v' (n + k) (xs ++ news) ∧ w.grownBy w' v.ownBlock ∧ (v'.ownBlock = v.ownBlock ∨ v'.ownBlock = some w.heap.size) := by
  obtain ⟨i, hi, hz, hs, hby⟩ := info_parts hT.info
  obtain ⟨o, c, rfl, hl, hn, hc⟩ := hsrc.news
  cases o with
  | none =>
    obtain ⟨rfl, rfl⟩ := hn rfl
    have : news = [] := List.eq_nil_of_length_eq_zero (by simpa using hl)
    subst this
    have hrun := run_append_owned_none (P := P) w base t ty e i size hT.und hi v n xs hown
    exact ⟨v, w, hrun, by simpa using hown, World.grownBy.refl _ _, .inl rfl⟩
  | some a =>
    obtain ⟨v', w', h, h2, h3, _, h4⟩ := run_append_own_at (P := P) w base t ty e i z size bytes hT.und hi hz hs hby hT.cells hT.pos v n xs hown a k c news hl (hc a rfl) h1 (by simp only [maxLen]; omega) hb hbase
    exact ⟨v', w', h, h2, h3, h4⟩

theorem does_append_at {P : Program} {w : World} {t e : TypeId} {z : Value} {size bytes : Nat} (hT : SliceT P t e z size bytes) {o : Oper} {ρ : Operand → Value} {s x : Operand}
    (hop : o.op = Op.call { callee := Callee.builtin Builtin.append, args := #[s, x], argTypes := #[t, t] }) {base : Nat} {v : Value} {n : Nat} {xs : List Value} (hs : ρ s = v) (hown : w.ownsRow base e size v n xs)
    {src : Value} {k : Nat} {news : List Value} (hx : ρ x = src) (hsrc : SlAt size w src k news) (h1 : ∀ u ∈ news, u.oneCell' = true) (hb : (n + k) * bytes ≤ 140737488355328) (h63 : n + k ≤ 9223372036854775807) (hbase : base ≤ w.heap.size) :
    Does P o ρ w (fun v' w' => w'.ownsRow base e size v' (n + k) (xs ++ news) ∧ w.grownBy w' v.ownBlock ∧ (v'.ownBlock = v.ownBlock ∨ v'.ownBlock = some w.heap.size)) := by
  obtain ⟨v', w', hrun, h2, h3, h4⟩ := run_append_at (P := P) hT o.type hown hsrc h1 hb h63 hbase
  refine does_value (W' := w') v' ?_ ⟨h2, h3, h4⟩
  simp [execOp, hop, resolve, invoke, builtin, hs, hx, hrun, Result.andThen]

theorem wpListIn_append {F : Fence} {n : Nat} (hF : ∀ f, F.fn f) (hd : F.depth = none) {P : Program} (hcall : ∀ f args w R, Calls P f args w R → CallsIn F (n - 1) P f args w R)
    {w : World} {ops : Array Oper} {rest : List Oper} {o : Oper} {a : Act} {Q : Exit → Act → World → Prop} (hg : o.guard = none) (s x : Operand) {t e : TypeId} {z : Value} {size bytes : Nat} (hT : SliceT P t e z size bytes)
    (hop : o.op = Op.call { callee := Callee.builtin Builtin.append, args := #[s, x], argTypes := #[t, t] }) (base : Nat) (v : Value) (m : Nat) (xs : List Value) (hs : a.eval s = v) (hown : w.ownsRow base e size v m xs)
    (src : Value) (k : Nat) (news : List Value) (hx : a.eval x = src) (hsrc : SlAt size w src k news) (h1 : ∀ u ∈ news, u.oneCell' = true) (hb : (m + k) * bytes ≤ 140737488355328) (h63 : m + k ≤ 9223372036854775807) (hbase : base ≤ w.heap.size)
    (hK : ∀ v' w', w'.ownsRow base e size v' (m + k) (xs ++ news) → w.grownBy w' v.ownBlock → (v'.ownBlock = v.ownBlock ∨ v'.ownBlock = some w.heap.size) → wpListIn F n P ops Q rest (a.put o.dst v') w') : wpListIn F n P ops Q (o :: rest) a w := by
  refine wpListIn_plain hg fun K hK' => ?_
  exact does_wpIn hF hd (fun c h => by rw [hop] at h; cases h) hcall (does_append_at (P := P) hT hop hs hown hx hsrc h1 hb h63 hbase) fun v' w' ⟨h2, h3, h4⟩ => hK' _ _ (hK v' w' h2 h3 h4)

theorem owns_slice {w : World} {base : Nat} {e : TypeId} {size : Nat} {v : Value} {n : Nat} {xs : List Value} (h : w.ownsRow base e size v n xs) : ∃ o c, v = .slice o n c := by
  obtain ⟨h1, ⟨rfl, rfl⟩ | ⟨g, c, cs, rfl, hb, hc, h3⟩⟩ := h
  · exact ⟨none, 0, rfl⟩
  · exact ⟨_, _, rfl⟩

theorem len_flat (ls : List (List Int)) (k : Nat) (h : ∀ x ∈ ls, x.length = k) : (ls.flatMap intCells).length = ls.length * k := by
  induction ls with
  | nil => simp
  | cons x ls ih =>
    rw [List.flatMap_cons, List.length_append, ih (fun y hy => h y (by simp [hy])), List.length_cons, Nat.add_mul]
    have := h x (by simp)
    simp [intCells, this]; omega

/-- The last element of a slice of arrays. -/
theorem owns_last {w : World} {base : Nat} {e : TypeId} {k : Nat} {v : Value} {A : List (List Int)} {z : List Int} (h : w.ownsRow base e k v (A.length + 1) ((A ++ [z]).flatMap intCells)) (hA : ∀ x ∈ A, x.length = k) (hz : z.length = k) :
    ∃ g c, v = .slice (some ⟨g, 0, none⟩) (A.length + 1) c ∧ base ≤ g ∧ g < w.heap.size ∧ w.rangeAt g (A.length * k) (intCells z) := by
  obtain ⟨h1, ⟨hv, h2⟩ | ⟨g, c, cs, hv, hb, hc, hn, hm, hs, hx⟩⟩ := h
  · exact absurd h2 (by simp)
  · refine ⟨g, c, hv, hb, (Array.getElem?_eq_some_iff.1 hc).1, fun j u hj => ?_⟩
    have hj' : j < k := by have := (List.getElem?_eq_some_iff.1 hj).1; simpa [intCells, hz] using this
    have e1 : ((A ++ [z]).flatMap intCells)[A.length * k + j]? = some u := by
      rw [List.flatMap_append, List.getElem?_append_right (by rw [len_flat A k hA]; omega), len_flat A k hA, Nat.add_sub_cancel_left]
      simpa using hj
    rw [← hx, List.getElem?_take] at e1
    split at e1
    · simp only [World.cell?, hc]; simpa using e1
    · cases e1

theorem range_of_block {w : World} {g : Nat} {cs : Array Value} {t : TypeId} {fr : Nat × Nat} (h : w.heap[g]? = some (.cells cs t fr)) : w.rangeAt g 0 cs.toList := fun j u hj => by
  simp only [World.cell?, h, Nat.zero_add]; simpa using hj

end Go.SL

namespace Go.Proofs.Ytoibfafmnaooaaa
open Go.RowKit Go.RG Go.SL Go.Shelf Cou
set_option maxHeartbeats 400000
set_option maxRecDepth 10000

/-- A list is left alone by whatever turns blocks that hold no numbers. -/
theorem IntsAt.ext_not {w w' : World} {v : Value} {l : List Int} (h : IntsAt w v l) {Ms : List Nat} (hE : Ext Ms w w') (hM : ∀ x ∈ Ms, ∀ o n, w.cell? ⟨x, o, none⟩ ≠ some (.int .i64 n)) : IntsAt w' v l := by
  obtain ⟨hl, o, c, rfl, h1, h2, h3, h4⟩ := h
  refine ⟨hl, o, c, rfl, h1, h2, h3, fun a ha => ?_⟩
  obtain ⟨hs, hc⟩ := h4 a ha
  obtain ⟨b, off, sp⟩ := a
  simp only at hs hc
  subst hs
  refine ⟨rfl, fun j u hj => ?_⟩
  have hcell := hc j u hj
  have hlt := World.block_lt_of_cell? w _ hcell
  rw [hE.cell b _ hlt (fun hm => by
    obtain ⟨n, _, rfl⟩ := List.mem_map.1 (List.mem_of_getElem? hj)
    exact hM b hm _ _ hcell)]
  exact hcell

/-- What add works with: found's cell, pass, the bound, add. -/
structure ShSt (w0 : World) (mb : Nat) (cool : Int) (pfn : Value) (below fb pb bb ab : Nat) (W : World) : Prop where
  ext : Ext [mb] w0 W
  cache : Cache W mb cool
  found : ∃ o n c, W.heap[fb]? = some (.cells #[.slice o n c] 25 (0, 0))
  pass : W.heap[pb]? = some (.cells #[pfn] 119 (0, 0))
  bound : W.heap[bb]? = some (.cells #[iv below] 3 (0, 0))
  add : W.heap[ab]? = some (.cells #[.func (.func 106) #[] #[.pointer (some ⟨fb, 0, none⟩), .pointer (some ⟨pb, 0, none⟩), .pointer (some ⟨bb, 0, none⟩), .pointer (some ⟨ab, 0, none⟩)]] 149 (0, 0))
  new : w0.heap.size ≤ fb ∧ w0.heap.size ≤ pb ∧ w0.heap.size ≤ bb ∧ w0.heap.size ≤ ab
  old : mb < w0.heap.size

theorem ShSt.table {w0 W W' : World} {mb : Nat} {cool : Int} {pfn : Value} {below fb pb bb ab : Nat} (h : ShSt w0 mb cool pfn below fb pb bb ab W) (hE : Ext [mb] W W') (hc : Cache W' mb cool) : ShSt w0 mb cool pfn below fb pb bb ab W' := by
  have hn := h.new
  have ho := h.old
  obtain ⟨o, n, c, hf⟩ := h.found
  have k : ∀ (b : Nat) (x : Obj), W.heap[b]? = some x → w0.heap.size ≤ b → W'.heap[b]? = some x := fun b x hb hle => (hE.block b (Array.getElem?_eq_some_iff.1 hb).1 (by simp; omega)).trans hb
  exact ⟨h.ext.trans hE, hc, ⟨o, n, c, k _ _ hf hn.1⟩, k _ _ h.pass hn.2.1, k _ _ h.bound hn.2.2.1, k _ _ h.add hn.2.2.2, hn, ho⟩
theorem ShSt.below {w0 W W' : World} {mb : Nat} {cool : Int} {pfn : Value} {below fb pb bb ab : Nat} (h : ShSt w0 mb cool pfn below fb pb bb ab W) (hB : Below W.heap.size W W') : ShSt w0 mb cool pfn below fb pb bb ab W' :=
  h.table (Ext.of_below hB) (h.cache.kept (hB.block mb h.cache.lt))

end Go.Proofs.Ytoibfafmnaooaaa

namespace Go.Proofs.Ytoibfafmnaooaaa
open Go.RowKit Go.RG Go.SL Go.Shelf Cou
set_option maxHeartbeats 400000
set_option maxRecDepth 10000

theorem owns_ext {w w' : World} {base : Nat} {e : TypeId} {size : Nat} {v : Value} {n : Nat} {xs : List Value} (h : w.ownsRow base e size v n xs) {Ms : List Nat} (hE : Ext Ms w w') (hM : ∀ x ∈ Ms, x < base) : w'.ownsRow base e size v n xs := by
  obtain ⟨h1, h2 | ⟨g, c, cs, hv, hb, hc, h3⟩⟩ := h
  · exact ⟨h1, .inl h2⟩
  · exact ⟨h1, .inr ⟨g, c, cs, hv, hb, (hE.block g (Array.getElem?_eq_some_iff.1 hc).1 (fun hm => by have := hM g hm; omega)).trans hc, h3⟩⟩

theorem owns_slice {w : World} {base : Nat} {e : TypeId} {size : Nat} {v : Value} {n : Nat} {xs : List Value} (h : w.ownsRow base e size v n xs) : ∃ o c, v = .slice o n c := by
  obtain ⟨h1, ⟨rfl, rfl⟩ | ⟨g, c, cs, rfl, hb, hc, h3⟩⟩ := h
  · exact ⟨none, 0, rfl⟩
  · exact ⟨_, _, rfl⟩

theorem below_extN {w w' : World} {B : Nat} (h : ExtN B [] w w') (hB : w.heap.size ≤ B) : Below w.heap.size w w' := ⟨h.os, h.tape, h.output, h.size, fun k hk => h.block k hk (by omega) (by simp)⟩

theorem extN_grown {w w' : World} {B : Nat} {e : TypeId} {size : Nat} {v : Value} {n : Nat} {xs : List Value} (h : w.ownsRow B e size v n xs) (hg : w.grownBy w' v.ownBlock) : ExtN B [] w w' :=
  ⟨hg.os, hg.tape, hg.output, hg.size, fun k hk hb _ => hg.block k hk (fun e1 => by
    obtain ⟨h1, ⟨rfl, rfl⟩ | ⟨g, c, cs, rfl, hb', hc, h3⟩⟩ := h
    · cases e1
    · have : k = g := by simpa [Value.ownBlock] using e1
      omega)⟩

/-- What is said of Clone's slice, and of the new one of one number, until they are appended. -/
def shPs (B n : Nat) (xs : List Int) (x : Int) : Pres := fun i _ v W =>
  match i with
  | 2 => W.ownsRow B 3 1 v n (intCells xs)
  | 4 => ∃ b : Nat, v = .slice (some ⟨b, 0, none⟩) 1 1 ∧ W.heap[b]? = some (.cells #[iv x] 3 (0, 0))
  | _ => True

/-- What add leaves behind. -/
def AddPost (w0 : World) (mb : Nat) (cool : Int) (pfn : Value) (below fb pb bb ab : Nat) (r : Option (List Int)) (W : World) (e : Ending) (W' : World) : Prop :=
  (ShSt w0 mb cool pfn below fb pb bb ab W' ∧ Ext [mb, fb] W W') ∧ ((∃ c, r = some c ∧ e = .returned (.bool true) ∧ ∃ sv, W'.heap[fb]? = some (.cells #[sv] 25 (0, 0)) ∧ IntsAt W' sv c) ∨ (r = none ∧ e = .returned (.bool false)))

theorem ShSt.set {w0 W : World} {mb : Nat} {cool : Int} {pfn : Value} {below fb pb bb ab : Nat} (h : ShSt w0 mb cool pfn below fb pb bb ab W) (hd : fb ≠ pb ∧ fb ≠ bb ∧ fb ≠ ab) (o : Option Addr) (n c : Nat) : ShSt w0 mb cool pfn below fb pb bb ab (W.setCell ⟨fb, 0, none⟩ (.slice o n c)) := by
  have hn := h.new
  have ho := h.old
  obtain ⟨o', n', c', hf⟩ := h.found
  exact ⟨h.ext.set hn.1 _, h.cache.kept (Below.heap_setCell _ _ _ _ (by show mb ≠ fb; omega)), ⟨o, n, c, set_block hf _⟩,
    (Below.heap_setCell _ _ _ _ (by show pb ≠ fb; omega)).trans h.pass, (Below.heap_setCell _ _ _ _ (by show bb ≠ fb; omega)).trans h.bound, (Below.heap_setCell _ _ _ _ (by show ab ≠ fb; omega)).trans h.add, hn, ho⟩

/-- Neither the table nor found's cell holds numbers. -/
theorem ShSt.not {w0 W : World} {mb : Nat} {cool : Int} {pfn : Value} {below fb pb bb ab : Nat} (h : ShSt w0 mb cool pfn below fb pb bb ab W) : ∀ x ∈ [mb, fb], ∀ o n, W.cell? ⟨x, o, none⟩ ≠ some (.int .i64 n) := by
  intro x hx o n hc
  obtain ⟨o', n', c', hf⟩ := h.found
  rcases List.mem_cons.1 hx with rfl | hx
  · rw [h.cache.noCell o] at hc; cases hc
  · obtain rfl : x = fb := by simpa using hx
    simp only [World.cell?, hf] at hc
    cases o with
    | zero => simp at hc
    | succ o => simp at hc

theorem map_flat {α : Type} (f : α → List (List Int)) (g : List Int → List Int) (l : List α) : (l.flatMap f).map g = l.flatMap fun x => (f x).map g := by
  rw [List.map_flatMap]

theorem shift_find (below m q : Nat) (l : List Int) (p : List Int → Bool) : ((((combs below m (q + 1)).map fun x => ((q : Nat) : Int) :: x)).map (l ++ ·)).find? p = ((combs below m (q + 1)).map ((l ++ [(q : Int)]) ++ ·)).find? p := by
  rw [List.map_map]
  congr 1
  apply List.map_congr_left
  intro x _
  simp

theorem owns_base {w : World} {base base' : Nat} {e : TypeId} {size : Nat} {v : Value} {n : Nat} {xs : List Value} (h : w.ownsRow base' e size v n xs) (hB : base ≤ base') : w.ownsRow base e size v n xs := by
  obtain ⟨h1, h2 | ⟨g, c, cs, hv, hb, h3⟩⟩ := h
  · exact ⟨h1, .inl h2⟩
  · exact ⟨h1, .inr ⟨g, c, cs, hv, Nat.le_trans hB hb, h3⟩⟩

theorem _root_.Go.RG.Does.mono {P : Program} {o : Oper} {ρ : Operand → Value} {W : World} {R R' : Value → World → Prop} (h : Does P o ρ W R) (hR : ∀ v W', R v W' → R' v W') : Does P o ρ W R' := by
  unfold Does at h ⊢
  split at h
  · exact hR _ _ h
  · exact hR _ _ h
  · exact h.mono fun e w' ⟨v, h1, h2⟩ => ⟨v, h1, hR _ _ h2⟩
  · exact h.elim

theorem intCells_snoc (l : List Int) (x : Int) : intCells (l ++ [x]) = intCells l ++ intCells [x] := by simp [intCells]

set_option maxHeartbeats 2000000 in
theorem add_any (below : Nat) (hbl : below ≤ 500) (p : List Int → Bool) (mb : Nat) (cool : Int) (w0 : World) (pf : Nat) (pfst pcaps : Array Value) (fb pb bb ab : Nat) (hd : fb ≠ pb ∧ fb ≠ bb ∧ fb ≠ ab)
    (eg : ∀ args w, (callFunc pf args).run Try.prog w = .ok (.enter pf args) w)
    (hpass : ∀ l v W, Ext [mb] w0 W → Cache W mb cool → IntsAt W v l → Calls Try.prog pf (pfst.push v ++ pcaps) W (fun e W' => e = .returned (.bool (p l)) ∧ Cache W' mb cool ∧ Ext [mb] W W')) :
    ∀ (m f : Nat) (l : List Int) (v : Value) (W : World), l.length + m ≤ 900 → f ≤ 900 → m ≤ 900 → ShSt w0 mb cool (.func (.func pf) pfst pcaps) below fb pb bb ab W → IntsAt W v l →
      Calls Try.prog 106 #[v, iv f, iv m, .pointer (some ⟨fb, 0, none⟩), .pointer (some ⟨pb, 0, none⟩), .pointer (some ⟨bb, 0, none⟩), .pointer (some ⟨ab, 0, none⟩)] W
        (AddPost w0 mb cool (.func (.func pf) pfst pcaps) below fb pb bb ab (((combs below m f).map (l ++ ·)).find? p) W) := by
  intro m
  induction m with
  | zero =>
    intro f l v W h1 h2 h3 hst hv
    have hres : ((combs below 0 f).map (l ++ ·)).find? p = if p l then some l else none := by
      simp only [combs, List.map_cons, List.map_nil, List.append_nil, List.find?_cons, List.find?_nil]
      cases p l <;> rfl
    obtain ⟨r, hr⟩ : ∃ r, ((combs below 0 f).map (l ++ ·)).find? p = r := ⟨_, rfl⟩
    rw [hr] at hres ⊢
    have HRE := Lib.hid hres
    clear hr hres
    obtain ⟨o, c, rfl⟩ := hv.open
    obtain ⟨o', n', c', hf⟩ := hst.found
    have c1 := cell_of_block0 hf
    have c2 := cell_of_block0 hst.pass
    have hlt := World.block_lt_of_cell? W _ c1
    have hfr := frozen_of_block hf 0
    have hS := hst.set hd o l.length c
    have hv1 : IntsAt (W.setCell ⟨fb, 0, none⟩ (.slice o l.length c)) (.slice o l.length c) l := IntsAt.ext_not hv ((ext_set W ⟨fb, 0, none⟩ _).more (Ms' := [mb, fb]) (by simp)) hst.not
    have HC := Lib.hid (hpass l _ _ hS.ext hS.cache hv1)
    have HS := Lib.hid hst
    have HS1 := Lib.hid (And.intro hS hv1)
    have HF := Lib.hid hf
    have hd1 : ¬ pb = fb := fun e => hd.1 e.symm
    have hd2 := hd.1
    clear hpass hst hv hS hv1 hf
    go_enter Try.func106, Try.ntmps106
    go_wp2_with fail
    refine HC.out.mono ?_
    rintro e W' ⟨rfl, hcc, hE⟩
    have hS2 := HS1.out.1.table hE hcc
    have hn := HS.out.new
    have ho := HS.out.old
    have hfb : W'.heap[fb]? = some (.cells #[.slice o l.length c] 25 (0, 0)) := (hE.block fb (by simpa [World.setCell] using hlt) (by simp; omega)).trans (set_block HF.out _)
    have hEE : Ext [mb, fb] W W' := ((ext_set W ⟨fb, 0, none⟩ (.slice o l.length c)).more (by simp)).trans (hE.more (by simp))
    have hv2 : IntsAt W' (.slice o l.length c) l := IntsAt.ext_not HS1.out.2 (hE.more (Ms' := [mb, fb]) (by simp)) HS1.out.1.not
    have HR := Lib.hid (And.intro hS2 (And.intro hfb (And.intro hEE hv2)))
    clear hcc hE hS2 hfb hEE hv2
    go_wp2_with fail
    go_returns
    refine ⟨⟨HR.out.1, HR.out.2.2.1⟩, ?_⟩
    have hre := HRE.out
    revert hre
    cases p l
    · intro hre; exact .inr ⟨by simpa using hre, by simp⟩
    · intro hre; exact .inl ⟨l, by simpa using hre, by simp, _, HR.out.2.1, HR.out.2.2.2⟩
  | succ m ih =>
    intro f l v W h1 h2 h3 hst hv
    obtain ⟨o, c, rfl⟩ := hv.open
    have hres : ((combs below (m + 1) f).map (l ++ ·)).find? p = ((List.range (below - m - f)).flatMap fun j => (combs below m (f + j + 1)).map ((l ++ [((f + j : Nat) : Int)]) ++ ·)).find? p := by
      conv => lhs; unfold combs
      rw [List.map_flatMap]
      simp only [List.map_map]
      congr 2
      funext j
      apply List.map_congr_left
      intro x _
      simp
    rw [hres]
    clear hres
    obtain ⟨r, hr⟩ : ∃ r, ((List.range (below - m - f)).flatMap fun j => (combs below m (f + j + 1)).map ((l ++ [((f + j : Nat) : Int)]) ++ ·)).find? p = r := ⟨_, rfl⟩
    rw [hr]
    have HRE := Lib.hid hr
    clear hr
    have hmm : (m : Int) + 1 ≤ 900 := by omega
    have hm0 : ((m : Int) + 1 == 0) = false := by simp; omega
    have hm0' : ¬ ((m : Int) + 1 = 0) := by omega
    rw [show (((m + 1 : Nat)) : Int) = (m : Int) + 1 from by omega]
    have HST := Lib.hid hst
    have HV := Lib.hid hv
    have HIH := Lib.hid ih
    have HD := Lib.hid hd
    clear hpass hst hv ih hd
    go_enter Try.func106, Try.ntmps106
    go_wp2_with fail
    go_loopw [11] (fun i wr => ∃ q : Nat, f ≤ q ∧ q ≤ f + (below - m - f) ∧ i = .int .i64 q ∧ ShSt w0 mb cool (.func (.func pf) pfst pcaps) below fb pb bb ab wr ∧ Ext [mb, fb] W wr ∧
        (∀ j, f + j < q → ((combs below m (f + j + 1)).map ((l ++ [((f + j : Nat) : Int)]) ++ ·)).find? p = none)) (fun i _ => below + f + 1 - (intOf i).toNat)
    case atStart => exact ⟨f, Nat.le_refl _, by omega, rfl, HST.out, Ext.refl _ _, fun j hj => by omega⟩
    case round =>
      obtain ⟨q, hfq, hq, rfl, hst, hE, hno⟩ := hrel
      have hv := IntsAt.ext_not HV.out hE HST.out.not
      have d1 := cell_of_block0 hst.bound
      have d2 := cell_of_block0 hst.add
      have e1 := World.block_lt_of_cell? wr _ d1
      have e2 := World.block_lt_of_cell? wr _ d2
      have HS := Lib.hid hst
      have HE := Lib.hid hE
      have HN := Lib.hid hno
      have HVV := Lib.hid hv
      clear hst hE hno hv
      by_cases hlt : q < f + (below - m - f)
      · have hqI : (q : Int) ≤ (below : Int) - ((m : Int) + 1) := by omega
        have hq9 : (q : Int) ≤ 500 := by omega
        go_wp2_with fail
        refine wp_region_rgP 10 [] (some 5) [(2, ⟨fun _ v => ∃ o c, v = .slice o l.length c, fun _ _ _ => True⟩), (4, ⟨fun _ v => ∃ b : Nat, v = .slice (some ⟨b, 0, none⟩) 1 1, fun _ _ _ => True⟩), (5, ⟨fun _ v => ∃ o c, v = .slice o (l.length + 1) c, fun _ v W => W.ownsRow wr.heap.size 3 1 v (l.length + 1) (intCells (l ++ [(q : Int)]))⟩)] (shPs wr.heap.size l.length l q) (by kernel_rfl) (by kernel_rfl) ?_
        simp only [List.take_succ_cons, List.take_zero, List.drop_succ_cons, List.drop_zero]
        repeat (refine tree_det (by rfl) _ (by rfl) (fun W hW => by go_simp; (try simp (disch := omega) only [IntWalk.i64_in, Int.tdiv_eq_ediv_of_nonneg]); try rfl) ?_; simp only [Act.put, List.setIfInBounds_toArray, List.set_cons_succ, List.set_cons_zero])
        refine tree_pre _ (by rfl) (by rfl) (by exact ⟨.slice none l.length 0, none, 0, rfl⟩) (fun W1 hE hF hG => ?_) (fun _ _ _ _ _ => trivial) (fun v Wa Wb ho hE => owns_ext (Ms := []) ho hE (by simp)) (fun v hv => ?_)
        · have hE' : ExtN wr.heap.size [] wr W1 := hE
          refine does_enter 81 #[.slice o l.length c] (by go_simp; try rfl) ?_
          refine (clone_any l _ W1 (HVV.out.below (below_extN hE' (Nat.le_refl _)) (Nat.le_refl _)) (by omega)).mono ?_
          rintro e W2 ⟨v, rfl, ho, hb⟩
          refine ⟨v, rfl, owns_slice ho, trivial, Ext.of_below hb, owns_base ho hE'.size⟩
        obtain ⟨o2, c2, rfl⟩ := hv
        simp only [Act.put, List.setIfInBounds_toArray, List.set_cons_succ, List.set_cons_zero]
        repeat (refine tree_det (by rfl) _ (by rfl) (fun W hW => by go_simp; (try simp (disch := omega) only [IntWalk.i64_in, Int.tdiv_eq_ediv_of_nonneg]); try rfl) ?_; simp only [Act.put, List.setIfInBounds_toArray, List.set_cons_succ, List.set_cons_zero])
        refine tree_pre _ (by rfl) (by rfl) (by exact ⟨.slice (some ⟨0, 0, none⟩) 1 1, 0, rfl⟩) (fun W1 hE hF hG => ?_) (fun _ _ _ _ _ => trivial) (fun v Wa Wb ho hE => ?_) (fun v hv => ?_)
        · refine does_value (W' := W1.alloc (.cells #[iv q] 3)) (.slice (some ⟨W1.heap.size, 0, none⟩) 1 1) (by go_simp; try rfl) ⟨⟨_, rfl⟩, trivial, Ext.of_below ((Below.refl _ _).alloc (Nat.le_refl _) _), _, rfl, heap_alloc_new _ _⟩
        · obtain ⟨b, hb, hc⟩ := ho
          exact ⟨b, hb, (hE.block b (Array.getElem?_eq_some_iff.1 hc).1 (by simp)).trans hc⟩
        obtain ⟨b4, rfl⟩ := hv
        simp only [Act.put, List.setIfInBounds_toArray, List.set_cons_succ, List.set_cons_zero]
        refine tree_pre _ (by rfl) (by rfl) (by exact ⟨.slice none (l.length + 1) 0, none, 0, rfl⟩) (fun W1 hE hF hG => ?_) (fun v Wa Wb ho hE => owns_ext (Ms := []) ho hE (by simp)) (fun _ _ _ _ _ => trivial) (fun v hv => ?_)
        · obtain ⟨b, hb, hc⟩ := hG rfl _ (List.Mem.head _) (by kernel_rfl)
          cases hb
          have ho : W1.ownsRow wr.heap.size 3 1 (.slice o2 l.length c2) l.length (intCells l) := hG rfl _ (List.Mem.tail _ (List.Mem.head _)) (by kernel_rfl)
          have hE' : Ext [] wr W1 := hE
          have hsrc : SlAt 1 W1 (.slice (some ⟨b4, 0, none⟩) 1 1) 1 (intCells [(q : Int)]) := SlAt.of_block 1 1 hc rfl (by decide)
          refine Does.mono (does_append tInts (by rfl) (by rfl) ho (by rfl) hsrc (one_ints _) (by omega) (by omega) hE'.size) ?_
          rintro v W2 ⟨hown, hgr⟩
          rw [← intCells_snoc] at hown
          obtain ⟨o5, c5, rfl⟩ := owns_slice hown
          exact ⟨⟨o5, c5, rfl⟩, hown, extN_grown ho hgr, trivial⟩
        obtain ⟨o5, c5, rfl⟩ := hv
        simp only [Act.put, List.setIfInBounds_toArray, List.set_cons_succ, List.set_cons_zero]
        repeat (refine tree_det (by rfl) _ (by rfl) (fun W hW => by go_simp; (try simp (disch := omega) only [IntWalk.i64_in]); try rfl) ?_; simp only [Act.put, List.setIfInBounds_toArray, List.set_cons_succ, List.set_cons_zero])
        intro W1 hE1 hF
        have hE' : ExtN wr.heap.size [] wr W1 := hE1
        have hB := below_extN hE' (Nat.le_refl _)
        obtain ⟨hc, hf⟩ := bcell hB
        have ho : W1.ownsRow wr.heap.size 3 1 (.slice o5 (l.length + 1) c5) (l.length + 1) (intCells (l ++ [(q : Int)])) := hF _ (List.Mem.head _)
        have hiv : IntsAt W1 (.slice o5 (l.length + 1) c5) (l ++ [(q : Int)]) := by
          have := SlAt.of_owns ho
          unfold IntsAt
          rw [List.length_append]
          exact this
        have hcall := HIH.out (q + 1) (l ++ [(q : Int)]) _ W1 (by simp; omega) (by omega) (by omega) (HS.out.below hB) hiv
        rw [show (((q + 1 : Nat)) : Int) = (q : Int) + 1 from by omega] at hcall
        have HC := Lib.hid hcall
        have HB := Lib.hid hB
        clear hcall hiv ho hB hE' hE1 hF
        go_wp2_with fail
        refine HC.out.mono ?_
        rintro e W2 ⟨⟨hS2, hE2⟩, hres⟩
        have HS2 := Lib.hid hS2
        have HEE := Lib.hid ((HE.out.trans (Ext.of_below HB.out)).trans hE2)
        clear hS2 hE2 hc hf d1 d2
        have hq1 : f + (q - f) = q := by omega
        rcases hres with ⟨cc, hcc, rfl, sv, hsv, hiv⟩ | ⟨hnone, rfl⟩
        · have HR := Lib.hid (And.intro hcc (And.intro hsv hiv))
          clear hcc hsv hiv
          go_wp2_with fail
          go_returns
          refine ⟨⟨HS2.out, HEE.out⟩, .inl ⟨cc, ?_, by simp, sv, HR.out.2⟩⟩
          rw [← HRE.out]
          refine find_flat_first p _ _ (q - f) (by simp; omega) cc (fun j hj => ?_) ?_
          · simp only [List.getElem_range]
            exact HN.out j (by omega)
          · simp only [List.getElem_range, hq1]
            exact HR.out.1
        · have HR := Lib.hid hnone
          clear hnone
          go_wp2_with fail
          go_roundw
          case rel =>
            refine ⟨q + 1, by omega, by omega, by go_num, HS2.out, HEE.out, fun j hj => ?_⟩
            by_cases hjq : f + j = q
            · rw [hjq]; exact HR.out
            · exact HN.out j (by omega)
          case measure => simp [intOf]; omega
      · have hqI : ¬ ((q : Int) ≤ (below : Int) - ((m : Int) + 1)) := by omega
        go_wp2_with fail
        go_returns
        refine ⟨⟨HS.out, HE.out⟩, .inr ⟨?_, by simp⟩⟩
        rw [← HRE.out]
        exact find_flat_none p _ _ (fun j hj => by
          simp only [List.length_range] at hj
          simp only [List.getElem_range]
          exact HN.out j (by omega))

end Go.Proofs.Ytoibfafmnaooaaa

namespace Go.Proofs.Ytoibfafmnaooaaa
open Go.RowKit Go.RG Go.SL Go.Shelf Cou
set_option maxHeartbeats 400000
set_option maxRecDepth 10000

theorem ints_nil (w : World) : IntsAt w (.slice none 0 0) [] := ⟨rfl, none, 0, rfl, Nat.le_refl _, by decide, fun _ => rfl, fun a h => by cases h⟩

theorem shortL_at {below k : Nat} {p : List Int → Bool} {c : List Int} (hk : k ≤ below) (h1 : ∀ j, j < k → (combs below j 0).find? p = none) (h2 : (combs below k 0).find? p = some c) : shortL below p = some c := by
  unfold shortL
  refine find_flat_first p _ _ k (by simp; omega) c (fun j hj => ?_) ?_
  · simp only [List.getElem_range]; exact h1 j hj
  · simp only [List.getElem_range]; exact h2
theorem shortL_no {below : Nat} {p : List Int → Bool} (h1 : ∀ j, j < below + 1 → (combs below j 0).find? p = none) : shortL below p = none := by
  unfold shortL
  refine find_flat_none p _ _ fun j hj => ?_
  simp only [List.length_range] at hj
  simp only [List.getElem_range]; exact h1 j hj

/-- What shortest returns. -/
def ShPost (mb : Nat) (cool : Int) (r : Option (List Int)) (w : World) (e : Ending) (W' : World) : Prop :=
  (Cache W' mb cool ∧ Ext [mb] w W') ∧ ((∃ c v, r = some c ∧ e = .returned (.tuple #[v, .bool true]) ∧ IntsAt W' v c) ∨ (r = none ∧ ∃ o n c, e = .returned (.tuple #[.slice o n c, .bool false])))

theorem ShSt.fin {w0 W : World} {mb : Nat} {cool : Int} {pfn : Value} {below fb pb bb ab : Nat} (h : ShSt w0 mb cool pfn below fb pb bb ab W) : Cache W mb cool ∧ Ext [mb] w0 W := ⟨h.cache, h.ext⟩

set_option maxHeartbeats 2000000 in
theorem shortest_any (below : Nat) (hbl : below ≤ 500) (p : List Int → Bool) (mb : Nat) (cool : Int) (w : World) (hcc : Cache w mb cool) (pf : Nat) (pfst pcaps : Array Value)
    (eg : ∀ args w, (callFunc pf args).run Try.prog w = .ok (.enter pf args) w)
    (hpass : ∀ l v W, Ext [mb] w W → Cache W mb cool → IntsAt W v l → Calls Try.prog pf (pfst.push v ++ pcaps) W (fun e W' => e = .returned (.bool (p l)) ∧ Cache W' mb cool ∧ Ext [mb] W W')) :
    Calls Try.prog 73 #[iv below, .func (.func pf) pfst pcaps] w (ShPost mb cool (shortL below p) w) := by
  have hmb := hcc.lt
  have HA := Lib.hid (fun (m : Nat) (W : World) (hm : m ≤ 501) (hst : ShSt w mb cool (.func (.func pf) pfst pcaps) below (w.heap.size + 1 + 1) (w.heap.size + 1) w.heap.size (w.heap.size + 1 + 1 + 1) W) =>
    add_any below hbl p mb cool w pf pfst pcaps (w.heap.size + 1 + 1) (w.heap.size + 1) w.heap.size (w.heap.size + 1 + 1 + 1) (by omega) eg hpass m 0 [] (.slice none 0 0) W (by simp; omega) (by omega) (by omega) hst (ints_nil W))
  obtain ⟨r, hr⟩ : ∃ r, shortL below p = r := ⟨_, rfl⟩
  rw [hr]
  have HR := Lib.hid hr
  have HCC := Lib.hid hcc
  clear hpass eg hcc hr
  go_enter Try.func73, Try.ntmps73
  go_wp2_with fail
  go_step3
  go_wp2_with fail
  go_step3
  go_wp2_with fail
  obtain ⟨w4, hw4⟩ : ∃ w4, ((((w.alloc (.cells #[iv below] 3)).alloc (.cells #[.func (.func pf) pfst pcaps] 119)).alloc (.cells #[.slice none 0 0] 25)).alloc
      (.cells #[.func (.func 106) #[] #[.pointer (some ⟨w.heap.size + 1 + 1, 0, none⟩), .pointer (some ⟨w.heap.size + 1, 0, none⟩), .pointer (some ⟨w.heap.size, 0, none⟩), .pointer (some ⟨w.heap.size + 1 + 1 + 1, 0, none⟩)]] 149)) = w4 := ⟨_, rfl⟩
  have hst0 : ShSt w mb cool (.func (.func pf) pfst pcaps) below (w.heap.size + 1 + 1) (w.heap.size + 1) w.heap.size (w.heap.size + 1 + 1 + 1) w4 := by
    have hB : Below w.heap.size w w4 := by rw [← hw4]; exact (by repeat (first | exact Below.refl _ _ | assumption | refine bgo ?_ (by assumption) | refine bgoAlloc ?_ _ | refine bgoDrew ?_ | refine bgoSet ?_ (by simp; omega) _))
    refine ⟨Ext.of_below hB, HCC.out.kept (hB.block mb hmb), ⟨none, 0, 0, ?_⟩, ?_, ?_, ?_, by omega, hmb⟩
    · rw [← hw4]; exact (Below.heap_alloc _ _ _ (by simp)).trans (heap_new2 _ _ _ _)
    · rw [← hw4]; exact (Below.heap_alloc _ _ _ (by simp)).trans ((Below.heap_alloc _ _ _ (by simp)).trans (heap_new1 _ _ _))
    · rw [← hw4]; exact (Below.heap_alloc _ _ _ (by simp; omega)).trans ((Below.heap_alloc _ _ _ (by simp; omega)).trans ((Below.heap_alloc _ _ _ (by simp)).trans (heap_new0 _ _)))
    · rw [← hw4]; have := heap_new0 (((w.alloc (.cells #[iv below] 3)).alloc (.cells #[.func (.func pf) pfst pcaps] 119)).alloc (.cells #[.slice none 0 0] 25)) (.cells #[.func (.func 106) #[] #[.pointer (some ⟨w.heap.size + 1 + 1, 0, none⟩), .pointer (some ⟨w.heap.size + 1, 0, none⟩), .pointer (some ⟨w.heap.size, 0, none⟩), .pointer (some ⟨w.heap.size + 1 + 1 + 1, 0, none⟩)]] 149); simpa using this
  rw [hw4]
  have HS0 := Lib.hid hst0
  clear hst0 hw4
  go_loopw [5, 11] (fun b i wr => ∃ k : Nat, k ≤ below + 1 ∧ b = .bool false ∧ i = .int .i64 k ∧ ShSt w mb cool (.func (.func pf) pfst pcaps) below (w.heap.size + 1 + 1) (w.heap.size + 1) w.heap.size (w.heap.size + 1 + 1 + 1) wr ∧
      (∀ j, j < k → (combs below j 0).find? p = none)) (fun _ i _ => below + 1 - (intOf i).toNat)
  case atStart => exact ⟨0, Nat.zero_le _, rfl, rfl, HS0.out, fun j hj => by omega⟩
  case round =>
    obtain ⟨k, hk, rfl, rfl, hst, hno⟩ := hrel
    have d2 := cell_of_block0 hst.add
    have e2 := World.block_lt_of_cell? wr _ d2
    have HS := Lib.hid hst
    have HN := Lib.hid hno
    clear hst hno
    by_cases hlt : k < below + 1
    · have hkI : (k : Int) < (below : Int) + 1 := by omega
      have HC := Lib.hid (HA.out k wr (by omega) HS.out)
      go_wp2_with fail
      refine HC.out.mono ?_
      rintro e W2 ⟨⟨hS2, _⟩, hres⟩
      have HS2 := Lib.hid hS2
      rcases hres with ⟨cc, hcc, rfl, sv, hsv, hiv⟩ | ⟨hnone, rfl⟩
      · have hr : r = some cc := by
          rw [← HR.out]
          exact shortL_at (by omega) HN.out (by simpa using hcc)
        obtain ⟨so, sc, rfl⟩ := hiv.open
        have f1 := cell_of_block0 hsv
        have f2 := frozen_of_block hsv 0
        have f3 := World.block_lt_of_cell? W2 _ f1
        have HX := Lib.hid (And.intro hr (And.intro hsv hiv))
        clear hr hsv hiv hS2 hcc d2
        go_wp2_with fail
        (try rw [Exit.noGoto_ret])
        have hcell : (W2.setCell ⟨w.heap.size + 1 + 1, 0, none⟩ (.slice so cc.length sc)).cell? ⟨w.heap.size + 1 + 1, 0, none⟩ = some (.slice so cc.length sc) := cell_of_block0 (set_block HX.out.2.1 _)
        refine bodyPost_ret (v := .tuple #[.slice so cc.length sc, .bool true]) (by simp [results, Try.results73, go_sem, hcell]) rfl ?_
        refine ⟨(HS2.out.set (by omega) so cc.length sc).fin, .inl ⟨cc, _, HX.out.1, rfl, ?_⟩⟩
        exact IntsAt.ext_not HX.out.2.2 ((ext_set W2 ⟨w.heap.size + 1 + 1, 0, none⟩ _).more (Ms' := [mb, w.heap.size + 1 + 1]) (by simp)) HS2.out.not
      · have HX := Lib.hid hnone
        clear hnone hS2 d2
        go_wp2_with fail
        go_roundw
        case rel =>
          refine ⟨k + 1, by omega, rfl, by go_num, HS2.out, fun j hj => ?_⟩
          by_cases hjq : j = k
          · subst hjq; simpa using HX.out
          · exact HN.out j (by omega)
        case measure => simp [intOf]; omega
    · have hkI : ¬ ((k : Int) < (below : Int) + 1) := by omega
      obtain ⟨o', n', c', hf⟩ := HS.out.found
      have f1 := cell_of_block0 hf
      have f2 := frozen_of_block hf 0
      have f3 := World.block_lt_of_cell? wr _ f1
      have hk1 : k = below + 1 := by omega
      subst hk1
      have hr : r = none := by
        rw [← HR.out]
        exact shortL_no HN.out
      go_wp2_with fail
      (try rw [Exit.noGoto_ret])
      have hcell : (wr.setCell ⟨w.heap.size + 1 + 1, 0, none⟩ (.slice o' n' c')).cell? ⟨w.heap.size + 1 + 1, 0, none⟩ = some (.slice o' n' c') := cell_of_block0 (set_block hf _)
      refine bodyPost_ret (v := .tuple #[.slice o' n' c', .bool false]) (by simp [results, Try.results73, go_sem, hcell]) rfl ?_
      exact ⟨(HS.out.set (by omega) o' n' c').fin, .inr ⟨rfl, _, _, _, rfl⟩⟩

end Go.Proofs.Ytoibfafmnaooaaa

namespace Go.Proofs.Ytoibfafmnaooaaa
open Go.RowKit Go.RG Go.SL Go.Shelf Cou
set_option maxHeartbeats 400000
set_option maxRecDepth 10000
attribute [local go_sem] Oper.semAt_some

theorem tHeats : SliceT Try.prog 130 127 (.agg #[iv 0, iv 0, iv 0, iv 0, iv 0, iv 0, iv 0, iv 0, iv 0, iv 0]) 10 80 := ⟨Try.underlying130, by kernel_rfl, rfl, by omega⟩

theorem one_flat (ls : List (List Int)) : ∀ u ∈ ls.flatMap intCells, u.oneCell' = true := by
  intro u hu
  obtain ⟨x, _, h⟩ := List.mem_flatMap.1 hu
  exact one_ints x u h

/-- every's own blocks: the two boxes, the result, the iterator's two boxes. -/
structure Evr (w : World) (wb : Nat) (tv : Value) (ls : List (List Int)) (Ms : List Nat) (W : World) : Prop where
  b0 : W.heap[w.heap.size]? = some (.cells #[.pointer (some ⟨wb, 0, none⟩)] 106 (0, 0))
  b1 : W.heap[w.heap.size + 1]? = some (.cells #[tv] 25 (0, 0))
  out : ∃ v, W.heap[w.heap.size + 1 + 1]? = some (.cells #[v] 130 (0, 0)) ∧ W.ownsRow (w.heap.size + 7) 127 10 v ls.length (ls.flatMap intCells) ∧ ∀ g, v.ownBlock = some g → g ∉ Ms ∧ g < W.heap.size
  b3 : W.heap[w.heap.size + 1 + 1 + 1]? = some (.cells #[.pointer (some ⟨wb, 0, none⟩)] 106 (0, 0))
  b4 : W.heap[w.heap.size + 1 + 1 + 1 + 1]? = some (.cells #[.slice none 0 0] 25 (0, 0))

theorem owns_keep {w w' : World} {base : Nat} {e : TypeId} {size : Nat} {v : Value} {n : Nat} {xs : List Value} (h : w.ownsRow base e size v n xs) (hk : ∀ g, v.ownBlock = some g → w'.heap[g]? = w.heap[g]?) : w'.ownsRow base e size v n xs := by
  obtain ⟨h1, h2 | ⟨g, c, cs, rfl, hb, hc, h3⟩⟩ := h
  · exact ⟨h1, .inl h2⟩
  · exact ⟨h1, .inr ⟨g, c, cs, rfl, hb, (hk g rfl).trans hc, h3⟩⟩

theorem owns_ge {w : World} {base : Nat} {e : TypeId} {size : Nat} {v : Value} {n : Nat} {xs : List Value} (h : w.ownsRow base e size v n xs) : ∀ g, v.ownBlock = some g → base ≤ g ∧ g < w.heap.size := by
  intro g hg
  obtain ⟨h1, ⟨rfl, rfl⟩ | ⟨g', c, cs, rfl, hb, hc, h3⟩⟩ := h
  · cases hg
  · have : g = g' := by simpa [Value.ownBlock] using hg.symm
    subst this
    exact ⟨hb, (Array.getElem?_eq_some_iff.1 hc).1⟩

theorem Evr.kept {w : World} {wb : Nat} {tv : Value} {ls : List (List Int)} {Ms Ms' : List Nat} {W W' : World} (h : Evr w wb tv ls Ms W) (hs : W.heap.size ≤ W'.heap.size) (hk : ∀ b, w.heap.size ≤ b → b < w.heap.size + 5 → W'.heap[b]? = W.heap[b]?)
    (ho : ∀ g, w.heap.size + 7 ≤ g → g < W.heap.size → g ∉ Ms → W'.heap[g]? = W.heap[g]?) (hM : ∀ m ∈ Ms', m ∈ Ms ∨ (W.heap.size ≤ m ∧ m < W'.heap.size)) : Evr w wb tv ls Ms' W' := by
  obtain ⟨v, h1, h2, h3⟩ := h.out
  refine ⟨(hk _ (by omega) (by omega)).trans h.b0, (hk _ (by omega) (by omega)).trans h.b1, ⟨v, (hk _ (by omega) (by omega)).trans h1, owns_keep h2 fun g hg => ho g (owns_ge h2 g hg).1 (owns_ge h2 g hg).2 (h3 g hg).1, fun g hg => ⟨fun hm => ?_, by have := (h3 g hg).2; omega⟩⟩,
    (hk _ (by omega) (by omega)).trans h.b3, (hk _ (by omega) (by omega)).trans h.b4⟩
  rcases hM g hm with h4 | h4
  · exact (h3 g hg).1 h4
  · have := (h3 g hg).2; omega

/-- What every leaves behind. -/
def EvPost (ls : List (List Int)) (mb : Nat) (cool : Int) (w : World) (e : Ending) (w' : World) : Prop :=
  ∃ v, e = .returned v ∧ w'.ownsRow w.heap.size 127 10 v ls.length (ls.flatMap intCells) ∧ Cache w' mb cool ∧ Ext [mb] w w'

theorem truth_bd {h : HeapD} (hS : Sound h) {out : List Int} {t : Int × List Int} (ht : t ∈ truthsL h out) : t.2.length = h.wet.length ∧ (0 ≤ t.1 ∧ t.1 ≤ 500) ∧ ∀ x ∈ t.2, 0 ≤ x ∧ x ≤ 20 := by
  unfold truthsL at ht
  obtain ⟨x, hx, rfl⟩ := List.mem_map.1 ht
  obtain ⟨s, rest, rfl, h1, h2, h3⟩ := list_split hS (List.mem_filter.1 hx).1
  exact ⟨h1, h2, h3⟩

/-- The world behind one more element. -/
theorem ev_push {w W7 W8 W9 : World} {wb mb : Nat} {cool : Int} {tv v v' : Value} {ls : List (List Int)} {ys : List Int} {Os Ms : List Nat} {obj : Obj} (hF : Fr w mb cool Os Ms W7) (hP : Evr w wb tv ls Ms W7)
    (hv1 : W7.heap[w.heap.size + 1 + 1]? = some (.cells #[v] 130 (0, 0))) (hv3 : ∀ g, v.ownBlock = some g → (w.heap.size + 7 ≤ g ∧ g < W7.heap.size) ∧ g ∉ Ms)
    (hE : Ext [] W7 W8) (hG : (W8.alloc obj).grownBy W9 v.ownBlock) (hN : v'.ownBlock = v.ownBlock ∨ v'.ownBlock = some (W8.heap.size + 1)) (hO : W9.ownsRow (w.heap.size + 7) 127 10 v' (ls.length + 1) (ls.flatMap intCells ++ intCells ys))
    (hmb : mb < w.heap.size) (hs : w.heap.size + 7 ≤ W7.heap.size) :
    (Fr w mb cool Os Ms (W9.setCell ⟨w.heap.size + 1 + 1, 0, none⟩ v') ∧ Evr w wb tv (ls ++ [ys]) Ms (W9.setCell ⟨w.heap.size + 1 + 1, 0, none⟩ v')) ∧
      (∀ b, b < W7.heap.size → v.ownBlock ≠ some b → b ≠ w.heap.size + 2 → (W9.setCell ⟨w.heap.size + 1 + 1, 0, none⟩ v').heap[b]? = W7.heap[b]?) ∧ W7.heap.size ≤ (W9.setCell ⟨w.heap.size + 1 + 1, 0, none⟩ v').heap.size := by
  have h1 := hE.size
  have h2 := hG.size
  simp only [World.size_alloc] at h2
  have hk : ∀ b, b < W7.heap.size → v.ownBlock ≠ some b → W9.heap[b]? = W7.heap[b]? := fun b hb hn =>
    (hG.block b (by simp; omega) (fun e => hn e.symm)).trans ((Below.heap_alloc _ _ _ (by omega)).trans (hE.block b hb (by simp)))
  have hks : ∀ b, b < W7.heap.size → v.ownBlock ≠ some b → b ≠ w.heap.size + 2 → (W9.setCell ⟨w.heap.size + 1 + 1, 0, none⟩ v').heap[b]? = W7.heap[b]? := fun b hb hn hne =>
    (Below.heap_setCell _ _ _ _ (by show b ≠ w.heap.size + 1 + 1; omega)).trans (hk b hb hn)
  have hlow : ∀ b, b < w.heap.size + 7 → v.ownBlock ≠ some b := fun b hb e => by have := (hv3 b e).1.1; omega
  have hsz : W7.heap.size ≤ (W9.setCell ⟨w.heap.size + 1 + 1, 0, none⟩ v').heap.size := by simp [World.setCell]; omega
  refine ⟨⟨hF.own ⟨hG.os.trans (hE.os.trans hF.ext.os), hG.tape.trans (hE.tape.trans hF.ext.tape), hG.output.trans (hE.output.trans hF.ext.output), by have := hF.ext.size; omega, fun k hk' hm => (hks k (by omega) (hlow k (by omega)) (by omega)).trans (hF.ext.block k hk' hm)⟩ hsz (hF.cache.kept (hks mb (by omega) (hlow mb (by omega)) (by omega))), ?_⟩, hks, hsz⟩
  have hb := owns_ge hO
  refine ⟨(hks _ (by omega) (hlow _ (by omega)) (by omega)).trans hP.b0, (hks _ (by omega) (hlow _ (by omega)) (by omega)).trans hP.b1, ⟨v', ?_, ?_, fun g hg => ⟨fun hm => ?_, by have := (hb g hg).2; simpa [World.setCell] using this⟩⟩, (hks _ (by omega) (hlow _ (by omega)) (by omega)).trans hP.b3, (hks _ (by omega) (hlow _ (by omega)) (by omega)).trans hP.b4⟩
  · exact set_block ((hk _ (by omega) (hlow _ (by omega))).trans hv1) _
  · rw [List.length_append, List.flatMap_append]
    have : [ys].flatMap intCells = intCells ys := by simp
    rw [this]
    exact owns_keep hO fun g hg => Below.heap_setCell _ _ _ _ (by have := (hb g hg).1; show g ≠ w.heap.size + 1 + 1; omega)
  · rcases hN with hN | hN
    · exact (hv3 g (by rw [← hN, hg])).2 hm
    · rw [hg] at hN
      injection hN with hN
      have := hF.bnd g hm
      omega

set_option maxHeartbeats 4000000 in
theorem every_any (h : HeapD) (hS : Sound h) (a b c tv : Value) (turns : List Int) (wb mb : Nat) (w : World) (hw : WorkAt w wb mb h a b c) (h1 : PairsAt w a h.wet) (h2 : IntsAt w b h.turns) (h3 : TriplesAt w c h.readings) (h4 : IntsAt w tv turns) :
    Calls Try.prog 83 #[.pointer (some ⟨wb, 0, none⟩), tv] w (EvPost (everyL h turns) mb h.cool w) := by
  obtain ⟨ot, ct, rfl⟩ := h4.open
  have HW := Lib.hid hw
  have H1 := Lib.hid h1
  have H2 := Lib.hid h2
  have H3 := Lib.hid h3
  have H4 := Lib.hid h4
  have HSS := Lib.hid hS
  have hmb := hw.cache.lt
  clear hw h1 h2 h3 h4 hS
  refine (callsIn_wide (n := 0)).1 ?_
  refine callsIn_of_wp_marks Try.func83 rfl trivial ?_
  simp only [Try.ntmps83, List.size_toArray, List.length_cons, List.length_nil, Nat.reduceAdd, Nat.reduceSub, Array.replicate_succ, Array.replicate_zero, List.push_toArray, List.append_toArray, List.nil_append, List.cons_append]
  gi_wp2_with fail
  refine (callsIn_wide.2 (truths_any wb _ _ _ _)).mono ?_
  rintro e w1 ⟨rfl, rfl⟩
  gi_wp2_with fail
  obtain ⟨w2, hw2⟩ : ∃ w2, (((((w.alloc (.cells #[.pointer (some ⟨wb, 0, none⟩)] 106)).alloc (.cells #[.slice ot turns.length ct] 25)).alloc (.cells #[.slice none 0 0] 130)).alloc (.cells #[.pointer (some ⟨wb, 0, none⟩)] 106)).alloc (.cells #[.slice none 0 0] 25)) = w2 := ⟨_, rfl⟩
  have hB2 : Below w.heap.size w w2 := by rw [← hw2]; exact (by repeat (first | exact Below.refl _ _ | assumption | refine bgo ?_ (by assumption) | refine bgoAlloc ?_ _ | refine bgoDrew ?_ | refine bgoSet ?_ (by simp; omega) _))
  have hsz2 : w2.heap.size = w.heap.size + 5 := by rw [← hw2]; simp
  have hP2 : Evr w wb (.slice ot turns.length ct) [] [mb] w2 := by
    rw [← hw2]
    have n3 := heap_new0 (((w.alloc (.cells #[.pointer (some ⟨wb, 0, none⟩)] 106)).alloc (.cells #[.slice ot turns.length ct] 25)).alloc (.cells #[.slice none 0 0] 130)) (.cells #[.pointer (some ⟨wb, 0, none⟩)] 106)
    have n4 := heap_new1 (((w.alloc (.cells #[.pointer (some ⟨wb, 0, none⟩)] 106)).alloc (.cells #[.slice ot turns.length ct] 25)).alloc (.cells #[.slice none 0 0] 130)) (.cells #[.pointer (some ⟨wb, 0, none⟩)] 106) (.cells #[.slice none 0 0] 25)
    simp only [World.size_alloc] at n3 n4
    refine ⟨?_, ?_, ⟨.slice none 0 0, ?_, ⟨rfl, .inl ⟨rfl, rfl⟩⟩, fun g hg => by cases hg⟩, ?_, n4⟩
    · exact (Below.heap_alloc _ _ _ (by first | omega | (simp; done) | (simp; omega))).trans ((Below.heap_alloc _ _ _ (by first | omega | (simp; done) | (simp; omega))).trans ((Below.heap_alloc _ _ _ (by first | omega | (simp; done) | (simp; omega))).trans ((Below.heap_alloc _ _ _ (by first | omega | (simp; done) | (simp; omega))).trans (heap_new0 _ _))))
    · exact (Below.heap_alloc _ _ _ (by first | omega | (simp; done) | (simp; omega))).trans ((Below.heap_alloc _ _ _ (by first | omega | (simp; done) | (simp; omega))).trans ((Below.heap_alloc _ _ _ (by first | omega | (simp; done) | (simp; omega))).trans (heap_new1 _ _ _)))
    · exact (Below.heap_alloc _ _ _ (by first | omega | (simp; done) | (simp; omega))).trans ((Below.heap_alloc _ _ _ (by first | omega | (simp; done) | (simp; omega))).trans (heap_new2 _ _ _ _))
    · exact (Below.heap_alloc _ _ _ (by first | omega | (simp; done) | (simp; omega))).trans n3
  rw [hw2]
  clear hw2
  refine wpIn_rangeC (truths_seq h HSS.out a b c (.slice none 0 0) [] wb mb (w.heap.size + 1 + 1 + 1) (w.heap.size + 1 + 1 + 1 + 1)) rfl (enters_of Try.func116 (by kernel_rfl) rfl) rfl (by simp; omega)
    (fun Ms k W => Fr w mb h.cool [w.heap.size, w.heap.size + 1, w.heap.size + 2, w.heap.size + 3, w.heap.size + 4, w.heap.size + 5, w.heap.size + 6] Ms W ∧ Evr w wb (.slice ot turns.length ct) (everyTo h turns k) Ms W)
    (fun _ _ _ => False)
    ?hInv ?hInvx ?hI ?hIx ?hIp ?hIxp ?h0
    (fun a Ms k W1 a₁ W => ∃ (t : Int × List Int) (ob bt : Nat), (truthsL h [])[k]? = some t ∧ a₁ = { tmps := (a.tmps.setIfInBounds 9 (.agg #[iv t.1, .slice (some ⟨ob, 1, none⟩) t.2.length t.2.length])).setIfInBounds 5 (.pointer (some ⟨bt, 0, none⟩)), defers := [] } ∧
      (Fr w mb h.cool [w.heap.size, w.heap.size + 1, w.heap.size + 2, w.heap.size + 3, w.heap.size + 4, w.heap.size + 5, w.heap.size + 6] Ms W ∧ Evr w wb (.slice ot turns.length ct) (everyTo h turns k) Ms W) ∧
      (W.heap[bt]? = some (.cells #[iv t.1, .slice (some ⟨ob, 1, none⟩) t.2.length t.2.length] 71 (0, 0)) ∧ (w.heap.size + 7 ≤ bt ∧ ob ∈ Ms ∧ ob ≠ mb) ∧ IntsAt W (.slice (some ⟨ob, 1, none⟩) t.2.length t.2.length) t.2) ∧ (∀ m ∈ Ms, m ∉ [mb] → m < W1.heap.size → W.heap[m]? = W1.heap[m]?) ∧ W1.heap.size ≤ W.heap.size)
    ?hMp ?hassign ?hbody ?hdone ?hstop
  case hInv => rintro Ms k W ⟨hF, hP⟩; exact hF.tinv HW.out H1.out H2.out H3.out (ints_nil w) hP.b3 hP.b4
  case hInvx => rintro cd Ms W h; exact h.elim
  case hI =>
    rintro Ms Ms' k Wa Wb ⟨hF, hP⟩ hE hMs hc
    refine ⟨(hF.step hE hMs hc).1, hP.kept hE.size (fun b h1 h2 => (hF.step hE hMs hc).2 b (by simp; omega)) (fun g h1 h2 h3 => hE.block g h2 h3) hMs⟩
  case hIx => rintro cd Ms Ms' Wa Wb h; exact h.elim
  case hIp =>
    rintro Ms k W r o ⟨hF, hP⟩ hr
    exact ⟨hF.put o (by omega) hmb, hP.kept (by simp) (fun b h1 h2 => World.putObj_heap_other (by omega)) (fun g h1 h2 h3 => World.putObj_heap_other (by omega)) (fun m hm => .inl hm)⟩
  case hIxp => rintro cd Ms W r o h; exact h.elim
  case h0 =>
    intro o o'
    have hB : Below w.heap.size w ((w2.alloc o).alloc o') := bgoAlloc (bgoAlloc hB2 _) _
    refine ⟨⟨Ext.of_below hB, fun m hm => .inl (by simpa using hm), fun m hm => (by have := hB.size; simp at hm; omega), fun b hb => ⟨by simp at hb ⊢; omega, by simp at hb ⊢; omega⟩, HW.out.cache.kept (hB.block mb hmb)⟩,
      hP2.kept (by simp; omega) (fun b h1 h2 => (Below.heap_alloc _ _ _ (by simp; omega)).trans (Below.heap_alloc _ _ _ (by omega))) (fun g h1 h2 h3 => by omega) (fun m hm => .inl hm)⟩
  case hMp =>
    rintro Ms k W1 a₁ W o ⟨t, ob, bt, ht, ha, ⟨hF, hP⟩, ⟨hbt, ⟨hb7, hob, hne⟩, hsl⟩, hk, hs⟩
    have hap := (hF.apart (w.heap.size + 6) (by simp)).1
    refine ⟨t, ob, bt, ht, ha, ⟨hF.put o (by omega) hmb, hP.kept (by simp) (fun b h1 h2 => World.putObj_heap_other (by omega)) (fun g h1 h2 h3 => World.putObj_heap_other (by omega)) (fun m hm => .inl hm)⟩,
      ⟨(World.putObj_heap_other (by omega)).trans hbt, ⟨hb7, hob, hne⟩, hsl.kept fun b off n c hv _ => by cases hv; exact World.putObj_heap_other (fun e => hap (by rw [show w.heap.size + 6 = ob by omega]; exact hob))⟩,
      fun m hm h0 hml => (World.putObj_heap_other (fun e => hap (by rw [show w.heap.size + 6 = m by omega]; exact hm))).trans (hk m hm h0 hml), by simpa using hs⟩
  case hassign =>
    rintro Ms k v W hk ⟨hF, hP⟩ ⟨ob, rfl, hsl, hob, hne⟩ hlt
    generalize ht : (truthsL h [])[k] = t at *
    have htk : (truthsL h [])[k]? = some t := by rw [List.getElem?_eq_getElem hk, ht]
    gi_wp2
    have hB : Below W.heap.size W (W.alloc (.cells #[iv t.1, .slice (some ⟨ob, 1, none⟩) t.2.length t.2.length] 71)) := bgoAlloc (Below.refl _ _) _
    have hc := hF.cache.kept (hB.block mb hF.cache.lt)
    exact ⟨⟨t, ob, W.heap.size, htk, rfl, ⟨(hF.step (Ext.of_below hB) (fun m hm => .inl hm) hc).1, hP.kept (by simp) (fun b h1 h2 => Below.heap_alloc _ _ _ (by omega)) (fun g h1 h2 h3 => Below.heap_alloc _ _ _ (by omega)) (fun m hm => .inl hm)⟩,
      ⟨heap_new0 _ _, ⟨by omega, hob, hne⟩, hsl.alloc _⟩, fun m hm h0 hml => Below.heap_alloc _ _ _ (by omega), by simp⟩, Below.heap_alloc _ _ _ (by omega), Below.heap_alloc _ _ _ (by omega)⟩
  case hbody =>
    rintro Ms k W1 a₁ W busy hk ⟨t, ob, bt, ht, rfl, ⟨hF, hP⟩, ⟨hbt, ⟨hb7, hob, hne⟩, hsl⟩, hkeep, hsz⟩ hrec hD
    simp only [List.setIfInBounds_toArray, List.set_cons_succ, List.set_cons_zero]
    have htm : t ∈ truthsL h [] := List.mem_of_getElem? ht
    obtain ⟨hl2, hs0, hrest⟩ := truth_bd HSS.out htm
    have hlast := HSS.out.last9
    have hwl := HSS.out.wetLen
    have c0 := cell_of_block0 hP.b0
    have c1 := cell_of_block0 hP.b1
    have k0 := World.block_lt_of_cell? W _ c0
    have k1 := World.block_lt_of_cell? W _ c1
    have kt := (Array.getElem?_eq_some_iff.1 hbt).1
    have hg : ∀ i, W.cell? ⟨bt, i, none⟩ = (#[iv t.1, .slice (some ⟨ob, 1, none⟩) t.2.length t.2.length] : Array Value)[i]? := fun i => by
      simp only [World.cell?, hbt]; rfl
    have hwork : WorkAt W wb mb h a b c := HW.out.ext hF.ext hF.cache
    have htv : IntsAt W (.slice ot turns.length ct) turns := H4.out.ext_other hF.ext (fun x hx o => by
      obtain rfl : x = mb := by simpa using hx
      exact HW.out.cache.noCell o)
    have hmbW := hF.cache.lt
    have HPL := Lib.hid (play_any h a b c wb mb t.1 t.2 turns _ _ W hwork hsl htv (by omega) HSS.out.size0 HSS.out.size1 HSS.out.cool0 HSS.out.cool1 hs0.1 hs0.2 hrest)
    obtain ⟨ys, hy⟩ : ∃ ys, heats h (t.1, t.2) turns = ys := ⟨_, rfl⟩
    have hy10 : ys.length = 10 := by rw [← hy]; exact heatsTo_length _ _ _ _ _ _
    rw [hy] at HPL
    have HY := Lib.hid hy
    have HT := Lib.hid (And.intro ht hk)
    have HF := Lib.hid hF
    have HP := Lib.hid hP
    have HK := Lib.hid (And.intro hkeep (And.intro hrec hD))
    have HTV := Lib.hid htv
    clear hF hP hkeep hrec hD hbt hsl htv hwork hy ht hrest htm
    rw [hl2] at HPL
    gi_wp2_with fail
    refine (CallsIn.inRound _ (callsIn_wide.2 HPL.out)).mono ?_
    rintro e W6 ⟨rfl, hcc, hE⟩
    have hyl : (intCells ys).length = 10 := by simp [intCells, hy10]
    simp only [aggI]
    obtain ⟨W7, hst, hblk, hE7⟩ := store_block Try.prog ys (heap_new0 W6 (.cells #[iv 0, iv 0, iv 0, iv 0, iv 0, iv 0, iv 0, iv 0, iv 0, iv 0] 127)) (by rw [hy10]; rfl)
    have hE' : Ext [mb] W W7 := ext_newer (hE.alloc _) hE7 hE.size
    have hcc7 : Cache W7 mb h.cool := hcc.kept ((hE7.block mb (by have := hcc.lt; first | (simp; done) | (simp; omega)) (by have := hcc.lt; first | (simp; done) | (simp; omega))).trans (Below.heap_alloc _ _ _ hcc.lt))
    have hF7 := HF.out.own (HF.out.ext.trans hE') hE'.size hcc7
    have hap := HF.out.apart
    have hP7 : Evr w wb (.slice ot turns.length ct) (everyTo h turns k) Ms W7 := HP.out.kept hE'.size (fun b h1 h2 => hE'.block b (hap b (by first | omega | (simp; done) | (simp; omega))).2 (by first | omega | (simp; done) | (simp; omega))) (fun g h1 h2 h3 => hE'.block g h2 (by first | omega | (simp; done) | (simp; omega))) (fun m hm => .inl hm)
    have hkp : ∀ m ∈ Ms, m ∉ [mb] → m < W1.heap.size → W7.heap[m]? = W1.heap[m]? := fun m hm h0 hml => (hE'.block m (by omega) h0).trans (HK.out.1 m hm h0 hml)
    have hrec := (hE'.block _ (hap (w.heap.size + 6) (by simp)).2 (by first | omega | (simp; done) | (simp; omega))).trans (show W.heap[w.heap.size + 6]? = some (.loop busy) from by rw [show w.heap.size + 6 = w2.heap.size + 1 by omega]; exact HK.out.2.1)
    have hD := (hE'.block _ (hap (w.heap.size + 5) (by simp)).2 (by first | omega | (simp; done) | (simp; omega))).trans (show W.heap[w.heap.size + 5]? = some (.deferred (some [])) from by rw [← hsz2]; exact HK.out.2.2)
    have hs7 : W1.heap.size ≤ W7.heap.size := by have := hE'.size; omega
    have hw7 : w.heap.size + 7 ≤ W7.heap.size := by have := hE'.size; omega
    obtain ⟨v, hv1, hv2, hv3⟩ := hP7.out
    obtain ⟨vo, vc, rfl⟩ := owns_slice hv2
    have d1 := cell_of_block0 hv1
    have d2 := frozen_of_block hv1 0
    have d3 := World.block_lt_of_cell? W7 _ d1
    have d4 := (Array.getElem?_eq_some_iff.1 hblk).1
    have hln : (everyTo h turns k).length ≤ 2000 := by have := everyTo_len h turns k; have := truthsL_len HSS.out []; have := HT.out.2; omega
    have hten := everyTo_ten (h := h) (turns := turns) (k := k)
    have hsucc : everyTo h turns (k + 1) = snocD (everyTo h turns k) ys := by
      rw [everyTo_succ HT.out.2, ← HY.out]
      have := HT.out.1
      rw [List.getElem?_eq_getElem HT.out.2] at this
      injection this with this
      rw [this]
    have HSU := Lib.hid hsucc
    have HF7 := Lib.hid hF7
    have HP7 := Lib.hid hP7
    have HK7 := Lib.hid (And.intro hkp (And.intro hrec (And.intro hD hs7)))
    have HV := Lib.hid (And.intro hv1 (And.intro hv2 hv3))
    have HB := Lib.hid hblk
    have HTEN := Lib.hid hten
    generalize everyTo h turns k = ls at *
    clear hF7 hP7 hkp hrec hD hap hv1 hv2 hv3 hblk hE7 hE' hcc7 hE hcc hten hsucc hg c0 c1
    gi_wp2_with fail
    rcases (List.eq_nil_or_concat ls).imp id (fun ⟨A, z, e⟩ => (⟨A, z, e.trans (List.concat_eq_append)⟩ : ∃ A z, ls = A ++ [z])) with rfl | ⟨A, z, rfl⟩
    · simp only [List.length_nil] at d1 HV
      refine wpIn_region_rgR 13 [] none [] (by kernel_rfl) (by kernel_rfl) (by kernel_rfl) ?_
      simp only [List.take_succ_cons, List.take_zero, List.drop_succ_cons, List.drop_zero]
      repeat (first | (refine tree_det (by rfl) _ (by rfl) (fun W hW => by go_simp; (try simp (disch := omega) only [IntWalk.i64_in, Int.tdiv_eq_ediv_of_nonneg]); try rfl) ?_; simp only [Act.put, List.setIfInBounds_toArray, List.set_cons_succ, List.set_cons_zero]) | (refine tree_skip (by rfl) (by rfl) ?_; simp only [Act.put, List.setIfInBounds_toArray, List.set_cons_succ, List.set_cons_zero]))
      have HDD : Hid (snocD [] ys = [] ++ [ys]) := Lib.hid (by simp [snocD])
      intro W8 hE8 hF8
      have hE : Ext [] W7 W8 := hE8
      obtain ⟨hc, hf⟩ := bcell hE.below
      have hz8 := hE.size
      have hb8 := HB.out
      obtain ⟨y0, y1, y2, y3, y4, y5, y6, y7, y8, y9, hys⟩ := ten_of hy10
      rw [hys] at hb8
      have hg8 : ∀ i, W7.cell? ⟨W6.heap.size, i, none⟩ = (#[iv y0, iv y1, iv y2, iv y3, iv y4, iv y5, iv y6, iv y7, iv y8, iv y9] : Array Value)[i]? := fun i => by
        simp only [World.cell?, hb8]; rfl
      have hz9 : W6.heap.size < W8.heap.size := by omega
      have hown8 := owns_ext (Ms := []) HV.out.2.1 hE (by simp)
      have HE8 := Lib.hid hE
      have HOW := Lib.hid hown8
      have HYS := Lib.hid hys
      clear hE hE8 hF8 hb8 hown8 hys
      gi_wp2_with (gi_at_builtin; go_loud (refine wpListIn_append (fun _ => trivial) rfl calls_round rfl _ _ tHeats rfl (w.heap.size + 7) (.slice vo 0 vc) 0 (List.flatMap intCells []) rfl ?_ (.slice (some ⟨W8.heap.size, 0, none⟩) 1 1) 1 (intCells [y0, y1, y2, y3, y4, y5, y6, y7, y8, y9]) rfl ?_ (one_ints _) (by omega) (by omega) (by simp; omega) ?_))
      · refine owns_ext (Ms := []) (w := W8) ?_ (Ext.of_below ((Below.refl _ _).alloc (Nat.le_refl _) _)) (by simp)
        simpa using HOW.out
      · exact SlAt.of_block 10 1 (heap_new0 _ _) rfl (by decide)
      · intro v' W9 hown hgr hown'
        obtain ⟨o9, c9, rfl⟩ := owns_slice hown
        have HO9 := Lib.hid hown
        have HG9 := Lib.hid hgr
        have HN9 := Lib.hid hown'
        have hg7 := owns_ge HV.out.2.1
        have hkeep9 : ∀ b, b < w.heap.size + 7 → b < W7.heap.size → W9.heap[b]? = W7.heap[b]? := fun b hb hb7 => by
          refine (hgr.block b (by simp; omega) (fun e => ?_)).trans ((Below.heap_alloc _ _ _ (by omega)).trans (HE8.out.block b hb7 (by simp)))
          have := hg7 b e.symm
          omega
        have hc9 := hc
        have hz10 : W8.heap.size < W9.heap.size := by have := hgr.size; simp at this; omega
        have e1 : W9.cell? ⟨w.heap.size + 1 + 1, 0, none⟩ = some (.slice vo 0 vc) := cell_of_block0 ((hkeep9 _ (by omega) d3).trans HV.out.1)
        have e2 : W9.frozen? ⟨w.heap.size + 1 + 1, 0, none⟩ = false := frozen_of_block ((hkeep9 _ (by omega) d3).trans HV.out.1) 0
        have e3 := World.block_lt_of_cell? W9 _ e1
        have HK9 := Lib.hid hkeep9
        clear hown hgr hown' hkeep9 hc9 hg8 hc hf hg7
        gi_wp2_with fail
        rw [HYS.out] at HDD
        obtain ⟨⟨hF9, hP9⟩, hks, hsz9⟩ := ev_push (ls := []) (ys := [y0, y1, y2, y3, y4, y5, y6, y7, y8, y9]) HF7.out HP7.out HV.out.1 (fun g hg => ⟨owns_ge HV.out.2.1 g hg, (HV.out.2.2 g hg).1⟩) HE8.out HG9.out HN9.out (by simpa using HO9.out) hmb hw7
        have hg7 := owns_ge HV.out.2.1
        have hap := HF7.out.apart
        refine ⟨⟨?_, ?_, fun m hm h0 hml => ?_, by have := HK7.out.2.2.2; omega⟩, hF9, ?_⟩
        · exact (hks _ (by omega) (fun e => by have := hg7 _ e; omega) (by omega)).trans HK7.out.2.1
        · exact (hks _ (by omega) (fun e => by have := hg7 _ e; omega) (by omega)).trans HK7.out.2.2.1
        · exact (hks m (by have := HK7.out.2.2.2; omega) (fun e => (HV.out.2.2 m e).1 hm) (fun e => (hap (w.heap.size + 2) (by simp)).1 (by rw [← e]; exact hm))).trans (HK7.out.1 m hm h0 hml)
        · rw [HSU.out, HYS.out]
          exact HDD.out ▸ hP9
    · have hz10 := HTEN.out z (by simp)
      obtain ⟨gb, gc, hvv, hgb, hglt, hrng⟩ := owns_last (A := A) (z := z) (by simpa using HV.out.2.1) (fun x hx => HTEN.out x (by simp [hx])) hz10
      have hcap : vo = some ⟨gb, 0, none⟩ := by simp at hvv; exact hvv.1
      subst hcap
      have hzl : (intCells z).length = 10 := by simp [intCells, hz10]
      have hyr := range_of_block HB.out
      (try simp only [List.length_append, List.length_cons, List.length_nil, Nat.zero_add] at d1)
      (try simp only [List.length_append, List.length_cons, List.length_nil, Nat.zero_add] at HV)
      (try simp only [List.length_append, List.length_cons, List.length_nil, Nat.zero_add] at hln)
      have hAI : ((A.length : Int) + 1 == 0) = false := by simp; omega
      have hA0 : ¬ ((A.length : Int) + 1 = 0) := by omega
      have hA1 : ((A.length : Int) + 1).toNat = A.length + 1 := by omega
      have hAm : (A.length : Int) + 1 - 1 = A.length := by omega
      rcases hq : (z == ys) with _ | _
      · have HDD : Hid (snocD (A ++ [z]) ys = (A ++ [z]) ++ [ys]) := Lib.hid (by
          unfold snocD
          rw [if_neg]
          simp only [List.getLast?_append, List.getLast?_singleton]
          intro e
          simp at e
          subst e; simp at hq)
        refine wpIn_region_rgR 13 [] none [] (by kernel_rfl) (by kernel_rfl) (by kernel_rfl) ?_
        simp only [List.take_succ_cons, List.take_zero, List.drop_succ_cons, List.drop_zero]
        repeat (first | (refine tree_det (by rfl) _ (by rfl) (fun W hW => by go_simp; (try simp (disch := omega) only [IntWalk.i64_in]); try rfl) ?_; simp only [Act.put, List.setIfInBounds_toArray, List.set_cons_succ, List.set_cons_zero]) | (refine tree_skip (by rfl) (by rfl) ?_; simp only [Act.put, List.setIfInBounds_toArray, List.set_cons_succ, List.set_cons_zero]))
        refine tree_det (by rfl) (.pointer (some ⟨gb, A.length * 10, none⟩)) (by rfl) (fun W hW => by go_simp; (try simp (disch := omega) only [IntWalk.i64_in]); (try rw [if_pos (by omega)]); (try simp); (try (intro hx; exfalso; omega))) ?_
        simp only [Act.put, List.setIfInBounds_toArray, List.set_cons_succ, List.set_cons_zero]
        refine tree_det (by rfl) (.agg (intCells z).toArray) (by rfl) (fun W hW => exec_load_mid 127 _ (by rfl) gb (A.length * 10) (by rfl) (intCells z) _ (fun j u hj => (hW gb _ hglt (by simp)).trans (hrng j u hj)) Try.underlying127 rfl (by rw [hzl]; kernel_rfl)) ?_
        simp only [Act.put, List.setIfInBounds_toArray, List.set_cons_succ, List.set_cons_zero]
        refine tree_det (by rfl) (.agg (intCells ys).toArray) (by rfl) (fun W hW => exec_load_mid 127 _ (by rfl) W6.heap.size 0 (by rfl) (intCells ys) _ (fun j u hj => (hW W6.heap.size _ d4 (by simp)).trans (hyr j u hj)) Try.underlying127 rfl (by rw [hyl]; kernel_rfl)) ?_
        simp only [Act.put, List.setIfInBounds_toArray, List.set_cons_succ, List.set_cons_zero]
        refine tree_det (by rfl) (.bool true) (by rfl) (fun W hW => (exec_neq_ints 127 3 _ 10 _ _ (by rfl) Try.underlying127 Try.underlying3 (by intro w; go_simp) (by kernel_rfl) z ys (by rfl) (by rfl) hz10 hy10).trans (by rw [hq]; rfl)) ?_
        simp only [Act.put, List.setIfInBounds_toArray, List.set_cons_succ, List.set_cons_zero]
        repeat (first | (refine tree_det (by rfl) _ (by rfl) (fun W hW => by go_simp; (try simp (disch := omega) only [IntWalk.i64_in, Int.tdiv_eq_ediv_of_nonneg]); try rfl) ?_; simp only [Act.put, List.setIfInBounds_toArray, List.set_cons_succ, List.set_cons_zero]) | (refine tree_skip (by rfl) (by rfl) ?_; simp only [Act.put, List.setIfInBounds_toArray, List.set_cons_succ, List.set_cons_zero]))
        intro W8 hE8 hF8
        have hE : Ext [] W7 W8 := hE8
        obtain ⟨hc, hf⟩ := bcell hE.below
        have hz8 := hE.size
        have hb8 := HB.out
        obtain ⟨y0, y1, y2, y3, y4, y5, y6, y7, y8, y9, hys⟩ := ten_of hy10
        rw [hys] at hb8
        have hg8 : ∀ i, W7.cell? ⟨W6.heap.size, i, none⟩ = (#[iv y0, iv y1, iv y2, iv y3, iv y4, iv y5, iv y6, iv y7, iv y8, iv y9] : Array Value)[i]? := fun i => by
          simp only [World.cell?, hb8]; rfl
        have hz9 : W6.heap.size < W8.heap.size := by omega
        have hown8 := owns_ext (Ms := []) HV.out.2.1 hE (by simp)
        have HE8 := Lib.hid hE
        have HOW := Lib.hid hown8
        have HYS := Lib.hid hys
        clear hE hE8 hF8 hb8 hown8 hys
        gi_wp2_with (gi_at_builtin; go_loud (refine wpListIn_append (fun _ => trivial) rfl calls_round rfl _ _ tHeats rfl (w.heap.size + 7) (.slice (some ⟨gb, 0, none⟩) (A.length + 1) vc) (A.length + 1) (List.flatMap intCells (A ++ [z])) rfl ?_ (.slice (some ⟨W8.heap.size, 0, none⟩) 1 1) 1 (intCells [y0, y1, y2, y3, y4, y5, y6, y7, y8, y9]) rfl ?_ (one_ints _) (by omega) (by omega) (by simp; omega) ?_))
        · refine owns_ext (Ms := []) (w := W8) ?_ (Ext.of_below ((Below.refl _ _).alloc (Nat.le_refl _) _)) (by simp)
          simpa using HOW.out
        · exact SlAt.of_block 10 1 (heap_new0 _ _) rfl (by decide)
        · intro v' W9 hown hgr hown'
          obtain ⟨o9, c9, rfl⟩ := owns_slice hown
          have HO9 := Lib.hid hown
          have HG9 := Lib.hid hgr
          have HN9 := Lib.hid hown'
          have hg7 := owns_ge HV.out.2.1
          have hkeep9 : ∀ b, b < w.heap.size + 7 → b < W7.heap.size → W9.heap[b]? = W7.heap[b]? := fun b hb hb7 => by
            refine (hgr.block b (by simp; omega) (fun e => ?_)).trans ((Below.heap_alloc _ _ _ (by omega)).trans (HE8.out.block b hb7 (by simp)))
            have := hg7 b e.symm
            omega
          have hc9 := hc
          have hz10 : W8.heap.size < W9.heap.size := by have := hgr.size; simp at this; omega
          have e1 : W9.cell? ⟨w.heap.size + 1 + 1, 0, none⟩ = some (.slice (some ⟨gb, 0, none⟩) (A.length + 1) vc) := cell_of_block0 ((hkeep9 _ (by omega) d3).trans HV.out.1)
          have e2 : W9.frozen? ⟨w.heap.size + 1 + 1, 0, none⟩ = false := frozen_of_block ((hkeep9 _ (by omega) d3).trans HV.out.1) 0
          have e3 := World.block_lt_of_cell? W9 _ e1
          have HK9 := Lib.hid hkeep9
          clear hown hgr hown' hkeep9 hc9 hg8 hc hf hg7
          gi_wp2_with fail
          rw [HYS.out] at HDD
          obtain ⟨⟨hF9, hP9⟩, hks, hsz9⟩ := ev_push (ls := (A ++ [z])) (ys := [y0, y1, y2, y3, y4, y5, y6, y7, y8, y9]) HF7.out HP7.out HV.out.1 (fun g hg => ⟨owns_ge HV.out.2.1 g hg, (HV.out.2.2 g hg).1⟩) HE8.out HG9.out HN9.out (by simpa using HO9.out) hmb hw7
          have hg7 := owns_ge HV.out.2.1
          have hap := HF7.out.apart
          refine ⟨⟨?_, ?_, fun m hm h0 hml => ?_, by have := HK7.out.2.2.2; omega⟩, hF9, ?_⟩
          · exact (hks _ (by omega) (fun e => by have := hg7 _ e; omega) (by omega)).trans HK7.out.2.1
          · exact (hks _ (by omega) (fun e => by have := hg7 _ e; omega) (by omega)).trans HK7.out.2.2.1
          · exact (hks m (by have := HK7.out.2.2.2; omega) (fun e => (HV.out.2.2 m e).1 hm) (fun e => (hap (w.heap.size + 2) (by simp)).1 (by rw [← e]; exact hm))).trans (HK7.out.1 m hm h0 hml)
          · rw [HSU.out, HYS.out]
            exact HDD.out ▸ hP9
      · obtain rfl : z = ys := by simpa using hq
        have HDD : Hid (snocD (A ++ [z]) z = A ++ [z]) := Lib.hid (by
          unfold snocD
          rw [if_pos]
          simp)
        refine wpIn_region_rgR 13 [] none [] (by kernel_rfl) (by kernel_rfl) (by kernel_rfl) ?_
        simp only [List.take_succ_cons, List.take_zero, List.drop_succ_cons, List.drop_zero]
        repeat (first | (refine tree_det (by rfl) _ (by rfl) (fun W hW => by go_simp; (try simp (disch := omega) only [IntWalk.i64_in]); try rfl) ?_; simp only [Act.put, List.setIfInBounds_toArray, List.set_cons_succ, List.set_cons_zero]) | (refine tree_skip (by rfl) (by rfl) ?_; simp only [Act.put, List.setIfInBounds_toArray, List.set_cons_succ, List.set_cons_zero]))
        refine tree_det (by rfl) (.pointer (some ⟨gb, A.length * 10, none⟩)) (by rfl) (fun W hW => by go_simp; (try simp (disch := omega) only [IntWalk.i64_in]); (try rw [if_pos (by omega)]); (try simp); (try (intro hx; exfalso; omega))) ?_
        simp only [Act.put, List.setIfInBounds_toArray, List.set_cons_succ, List.set_cons_zero]
        refine tree_det (by rfl) (.agg (intCells z).toArray) (by rfl) (fun W hW => exec_load_mid 127 _ (by rfl) gb (A.length * 10) (by rfl) (intCells z) _ (fun j u hj => (hW gb _ hglt (by simp)).trans (hrng j u hj)) Try.underlying127 rfl (by rw [hzl]; kernel_rfl)) ?_
        simp only [Act.put, List.setIfInBounds_toArray, List.set_cons_succ, List.set_cons_zero]
        refine tree_det (by rfl) (.agg (intCells z).toArray) (by rfl) (fun W hW => exec_load_mid 127 _ (by rfl) W6.heap.size 0 (by rfl) (intCells z) _ (fun j u hj => (hW W6.heap.size _ d4 (by simp)).trans (hyr j u hj)) Try.underlying127 rfl (by rw [hzl]; kernel_rfl)) ?_
        simp only [Act.put, List.setIfInBounds_toArray, List.set_cons_succ, List.set_cons_zero]
        refine tree_det (by rfl) (.bool false) (by rfl) (fun W hW => (exec_neq_ints 127 3 _ 10 _ _ (by rfl) Try.underlying127 Try.underlying3 (by intro w; go_simp) (by kernel_rfl) z z (by rfl) (by rfl) hz10 hz10).trans (by simp)) ?_
        simp only [Act.put, List.setIfInBounds_toArray, List.set_cons_succ, List.set_cons_zero]
        repeat (first | (refine tree_det (by rfl) _ (by rfl) (fun W hW => by go_simp; (try simp (disch := omega) only [IntWalk.i64_in, Int.tdiv_eq_ediv_of_nonneg]); try rfl) ?_; simp only [Act.put, List.setIfInBounds_toArray, List.set_cons_succ, List.set_cons_zero]) | (refine tree_skip (by rfl) (by rfl) ?_; simp only [Act.put, List.setIfInBounds_toArray, List.set_cons_succ, List.set_cons_zero]))
        intro W8 hE8 hF8
        have hE : Ext [] W7 W8 := hE8
        obtain ⟨hc, hf⟩ := bcell hE.below
        have hz8 := hE.size
        have HE8 := Lib.hid hE
        clear hE hE8 hF8
        gi_wp2_with fail
        have hap := HF7.out.apart
        refine ⟨⟨?_, ?_, fun m hm h0 hml => ?_, by have := HK7.out.2.2.2; omega⟩, (HF7.out.step (HE8.out.nil) (fun m hm => .inl hm) (HF7.out.cache.kept (HE8.out.block mb HF7.out.cache.lt (by simp)))).1, ?_⟩
        · exact (HE8.out.block _ (hap (w.heap.size + 6) (by simp)).2 (by simp)).trans HK7.out.2.1
        · exact (HE8.out.block _ (hap (w.heap.size + 5) (by simp)).2 (by simp)).trans HK7.out.2.2.1
        · exact (HE8.out.block m (by have := HK7.out.2.2.2; omega) (by simp)).trans (HK7.out.1 m hm h0 hml)
        · rw [HSU.out, HDD.out]
          exact HP7.out.kept HE8.out.size (fun b h1 h2 => HE8.out.block b (by omega) (by simp)) (fun g h1 h2 h3 => HE8.out.block g h2 (by simp)) (fun m hm => .inl hm)
  case hdone =>
    rintro Ms W ⟨hF, hP⟩ hD hlt
    rw [everyTo_all] at hP
    obtain ⟨v, hv1, hv2, hv3⟩ := hP.out
    obtain ⟨vo, vc, rfl⟩ := owns_slice hv2
    have hc := cell_of_block0 hv1
    have hf := frozen_of_block hv1 0
    have hk := World.block_lt_of_cell? W _ hc
    have HF := Lib.hid hF
    have HV := Lib.hid (And.intro hv1 hv2)
    clear hF hP hv1 hv2 hv3
    gi_wp2_with fail
    rw [hsz2] at hD
    have hD' : (W.setCell ⟨w.heap.size + 1 + 1, 0, none⟩ (.slice vo (everyL h turns).length vc)).heap[w.heap.size + 5]? = some (.deferred (some [])) := (Below.heap_setCell _ _ _ _ (by show w.heap.size + 5 ≠ w.heap.size + 1 + 1; omega)).trans hD
    have hcell : ((W.setCell ⟨w.heap.size + 1 + 1, 0, none⟩ (.slice vo (everyL h turns).length vc)).putObj (w.heap.size + 5) (.deferred none)).cell? ⟨w.heap.size + 1 + 1, 0, none⟩ = some (.slice vo (everyL h turns).length vc) :=
      cell_of_block0 ((World.putObj_heap_other (by omega)).trans (set_block HV.out.1 _))
    refine ⟨by simp, .inl ⟨_, _, rfl, run_takeDeferred hD', ?_⟩⟩
    have hF2 := (HF.out.own (HF.out.ext.set (p := ⟨w.heap.size + 1 + 1, 0, none⟩) (by show w.heap.size ≤ w.heap.size + 1 + 1; omega) (.slice vo (everyL h turns).length vc)) (by simp [World.setCell]) (HF.out.cache.kept (Below.heap_setCell _ _ _ _ (by show mb ≠ w.heap.size + 1 + 1; omega)))).put (Obj.deferred none) (r := w.heap.size + 5) (by omega) hmb
    refine ⟨.slice vo (everyL h turns).length vc, by simp [results, Try.results83, go_sem, hcell], _, rfl, ?_, hF2.cache, hF2.ext⟩
    refine owns_base (owns_keep HV.out.2 fun g hg => (World.putObj_heap_other ?_).trans (Below.heap_setCell _ _ _ _ ?_)) (by omega)
    · have := (owns_ge HV.out.2 g hg).1; omega
    · have := (owns_ge HV.out.2 g hg).1; show g ≠ w.heap.size + 1 + 1; omega
  case hstop => rintro cd Ms W h; exact h.elim

end Go.Proofs.Ytoibfafmnaooaaa

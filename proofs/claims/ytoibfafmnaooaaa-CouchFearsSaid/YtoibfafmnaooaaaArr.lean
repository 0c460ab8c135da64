/-
  Arrays of numbers as elements of a slice: a load, a comparison; append in a fence. Lemmas over any program.
-/
import Derived.Test.YtoibfafmnaooaaaFence
import Derived.Deep.MidRow
import Derived.Laws.StructEq
import Derived.Maps.AppendAt
namespace Go.SL
open Go.RowKit Go.RG

theorem exec_load_mid {P : Program} {o : Oper} {ρ : Operand → Value} {W : World} (t : TypeId) (x : Operand) (ho : o.op = .load t x) (b off : Nat) (hx : ρ x = .pointer (some ⟨b, off, none⟩)) (cs : List Value) (d : TypeDesc)
    (hc : W.rangeAt b off cs) (hu : P.underlying t = some d) (hd : d.isRow = true) (hi : (P.info? t).map (·.size) = some cs.length) : (execOp ρ o).run P W = .ok (.value (.agg cs.toArray)) W := by
  unfold execOp
  simp only [ho, hx, Instr.loadAt, Instr.sureAddr, Sem.run_bind, Sem.run_pure, Result.andThen_ok, run_loadVar_mid W b off t cs d hc hu hd hi]

theorem all_range_ints : ∀ (xs ys : List Int), xs.length = ys.length → ((List.range xs.length).all fun i => xs.getD i 0 == ys.getD i 0) = (xs == ys)
  | [], [], _ => rfl
  | x :: xs, y :: ys, h => by
    have ih := all_range_ints xs ys (by simpa using h)
    rw [List.length_cons, List.range_succ_eq_map, List.all_cons, List.all_map]
    simp only [List.getD_cons_zero, Function.comp_def, List.getD_cons_succ, ih]
    simp [List.cons_beq_cons]
  | [], _ :: _, h => by simp at h
  | _ :: _, [], h => by simp at h

theorem run_equalIn_ints {P : Program} (w : World) (d : Nat) (t e : TypeId) (n : Nat) (ht : P.underlying t = some (.array n e)) (he : P.underlying e = some (.int .i64)) (hsz : ∀ w, (sizeOf e).run P w = .ok 1 w)
    (xs ys : List Int) (hx : xs.length = n) (hy : ys.length = n) :
    (Op.equalIn (d + 2) t (.agg (intCells xs).toArray) (.agg (intCells ys).toArray)).run P w = .ok (xs == ys) w := by
  rw [← all_range_ints xs ys (hx.trans hy.symm), hx, List.range_eq_range', Op.equalIn]
  simp only [Sem.run_bind, run_underlying ht, Result.andThen_ok, hsz, Std.Legacy.Range.forIn_eq_forIn_range', Std.Legacy.Range.size, Nat.sub_zero, Nat.add_sub_cancel, Nat.div_one]
  have hl : ∀ i ∈ List.range' 0 n 1, i < n := fun i hi => by simpa using (List.mem_range'_1.1 hi).2
  generalize List.range' 0 n 1 = l at hl ⊢
  induction l with
  | nil => simp
  | cons i l ih =>
    have hi : i < n := hl i (by simp)
    have px : (part e (intCells xs).toArray (i * 1)).run P w = .ok (.int .i64 (xs.getD i 0)) w := by
      simp [part, isAgg, run_underlying he, intCells, List.getD, List.getElem?_eq_getElem (show i < xs.length by omega)]
    have py : (part e (intCells ys).toArray (i * 1)).run P w = .ok (.int .i64 (ys.getD i 0)) w := by
      simp [part, isAgg, run_underlying he, intCells, List.getD, List.getElem?_eq_getElem (show i < ys.length by omega)]
    have pe : (Op.equalIn (d + 1) e (.int .i64 (xs.getD i 0)) (.int .i64 (ys.getD i 0))).run P w = .ok (xs.getD i 0 == ys.getD i 0) w := run_equalIn_int w d e .i64 .i64 _ _ he
    simp only [List.forIn_cons, Sem.run_bind, px, py, pe, Result.andThen_ok, List.all_cons]
    cases hb : (xs.getD i 0 == ys.getD i 0)
    · simp
    · simp only [Bool.not_true, Bool.false_eq_true, if_false, Sem.run_pure, Result.andThen_ok, Bool.true_and]
      exact ih fun j hj => hl j (by simp [hj])

theorem run_neq_ints {P : Program} (w : World) (t e : TypeId) (n : Nat) (ht : P.underlying t = some (.array n e)) (he : P.underlying e = some (.int .i64)) (hsz : ∀ w, (sizeOf e).run P w = .ok 1 w)
    (xs ys : List Int) (hx : xs.length = n) (hy : ys.length = n) :
    (binOp .neq t (.agg (intCells xs).toArray) (.agg (intCells ys).toArray)).run P w = .ok (.bool (!(xs == ys))) w := by
  rw [run_neq_struct, run_equalIn_ints w 9998 t e n ht he hsz xs ys hx hy]
  rfl

theorem exec_neq_ints {P : Program} {o : Oper} {ρ : Operand → Value} {W : World} (t e tb : TypeId) (n : Nat) (x y : Operand) (ho : o.op = .binOp .neq t x y tb) (ht : P.underlying t = some (.array n e)) (he : P.underlying e = some (.int .i64)) (hsz : ∀ w, (sizeOf e).run P w = .ok 1 w)
    (hm : P.eqGuardType P.depth t = false) (xs ys : List Int) (hx : ρ x = .agg (intCells xs).toArray) (hy : ρ y = .agg (intCells ys).toArray) (hxl : xs.length = n) (hyl : ys.length = n) :
    (execOp ρ o).run P W = .ok (.value (.bool (!(xs == ys)))) W := by
  unfold execOp
  simp only [ho, hx, hy, Sem.run_bind, run_eqGuard_agg W .neq t x y _ _ hm, Result.andThen_ok, run_neq_ints W t e n ht he hsz xs ys hxl hyl, Sem.run_pure]

/-- append, with the block that the new slice lies in. -/
theorem run_append_at {P : Program} {w : World} {t e : TypeId} {z : Value} {size bytes : Nat} (hT : SliceT P t e z size bytes) (ty : TypeId) {base : Nat} {v : Value} {n : Nat} {xs : List Value} (hown : w.ownsRow base e size v n xs)
    {src : Value} {k : Nat} {news : List Value} (hsrc : SlAt size w src k news) (h1 : ∀ u ∈ news, u.oneCell' = true) (hb : (n + k) * bytes ≤ 140737488355328) (h63 : n + k ≤ 9223372036854775807) (hbase : base ≤ w.heap.size) :
    ∃ v' w', (Builtin.append_ #[t, t] ty #[v, src]).run P w = .ok v' w' ∧ w'.ownsRow base e size v' (n + k) (xs ++ news) ∧ w.grownBy w' v.ownBlock ∧ (v'.ownBlock = v.ownBlock ∨ v'.ownBlock = some w.heap.size) := by
  obtain ⟨i, hi, hz, hs, hby⟩ := info_parts hT.info
  obtain ⟨o, c, rfl, hl, hn, hc⟩ := hsrc.news
  cases o with
  | none =>
    obtain ⟨rfl, rfl⟩ := hn rfl
    have : news = [] := List.eq_nil_of_length_eq_zero (by simpa using hl)
    subst this
    have hrun := run_append_owned_none (P := P) w base t ty e i size hT.und hi v n xs hown
    exact ⟨v, w, hrun, by simpa using hown, World.grownBy.refl _ _, .inl rfl⟩
  | some a =>
    obtain ⟨v', w', h, h2, h3, _, h4⟩ := run_append_own_at (P := P) w base t ty e i z size bytes hT.und hi hz hs hby hT.cells hT.pos v n xs hown a k c news hl (hc a rfl) h1 (by simp only [maxLen]; omega) hb hbase
    exact ⟨v', w', h, h2, h3, h4⟩

theorem does_append_at {P : Program} {w : World} {t e : TypeId} {z : Value} {size bytes : Nat} (hT : SliceT P t e z size bytes) {o : Oper} {ρ : Operand → Value} {s x : Operand}
    (hop : o.op = Op.call { callee := Callee.builtin Builtin.append, args := #[s, x], argTypes := #[t, t] }) {base : Nat} {v : Value} {n : Nat} {xs : List Value} (hs : ρ s = v) (hown : w.ownsRow base e size v n xs)
    {src : Value} {k : Nat} {news : List Value} (hx : ρ x = src) (hsrc : SlAt size w src k news) (h1 : ∀ u ∈ news, u.oneCell' = true) (hb : (n + k) * bytes ≤ 140737488355328) (h63 : n + k ≤ 9223372036854775807) (hbase : base ≤ w.heap.size) :
    Does P o ρ w (fun v' w' => w'.ownsRow base e size v' (n + k) (xs ++ news) ∧ w.grownBy w' v.ownBlock ∧ (v'.ownBlock = v.ownBlock ∨ v'.ownBlock = some w.heap.size)) := by
  obtain ⟨v', w', hrun, h2, h3, h4⟩ := run_append_at (P := P) hT o.type hown hsrc h1 hb h63 hbase
  refine does_value (W' := w') v' ?_ ⟨h2, h3, h4⟩
  simp [execOp, hop, resolve, invoke, builtin, hs, hx, hrun, Result.andThen]

theorem wpListIn_append {F : Fence} {n : Nat} (hF : ∀ f, F.fn f) (hd : F.depth = none) {P : Program} (hcall : ∀ f args w R, Calls P f args w R → CallsIn F (n - 1) P f args w R)
    {w : World} {ops : Array Oper} {rest : List Oper} {o : Oper} {a : Act} {Q : Exit → Act → World → Prop} (hg : o.guard = none) (s x : Operand) {t e : TypeId} {z : Value} {size bytes : Nat} (hT : SliceT P t e z size bytes)
    (hop : o.op = Op.call { callee := Callee.builtin Builtin.append, args := #[s, x], argTypes := #[t, t] }) (base : Nat) (v : Value) (m : Nat) (xs : List Value) (hs : a.eval s = v) (hown : w.ownsRow base e size v m xs)
    (src : Value) (k : Nat) (news : List Value) (hx : a.eval x = src) (hsrc : SlAt size w src k news) (h1 : ∀ u ∈ news, u.oneCell' = true) (hb : (m + k) * bytes ≤ 140737488355328) (h63 : m + k ≤ 9223372036854775807) (hbase : base ≤ w.heap.size)
    (hK : ∀ v' w', w'.ownsRow base e size v' (m + k) (xs ++ news) → w.grownBy w' v.ownBlock → (v'.ownBlock = v.ownBlock ∨ v'.ownBlock = some w.heap.size) → wpListIn F n P ops Q rest (a.put o.dst v') w') : wpListIn F n P ops Q (o :: rest) a w := by
  refine wpListIn_plain hg fun K hK' => ?_
  exact does_wpIn hF hd (fun c h => by rw [hop] at h; cases h) hcall (does_append_at (P := P) hT hop hs hown hx hsrc h1 hb h63 hbase) fun v' w' ⟨h2, h3, h4⟩ => hK' _ _ (hK v' w' h2 h3 h4)

theorem owns_slice {w : World} {base : Nat} {e : TypeId} {size : Nat} {v : Value} {n : Nat} {xs : List Value} (h : w.ownsRow base e size v n xs) : ∃ o c, v = .slice o n c := by
  obtain ⟨h1, ⟨rfl, rfl⟩ | ⟨g, c, cs, rfl, hb, hc, h3⟩⟩ := h
  · exact ⟨none, 0, rfl⟩
  · exact ⟨_, _, rfl⟩

theorem len_flat (ls : List (List Int)) (k : Nat) (h : ∀ x ∈ ls, x.length = k) : (ls.flatMap intCells).length = ls.length * k := by
  induction ls with
  | nil => simp
  | cons x ls ih =>
    rw [List.flatMap_cons, List.length_append, ih (fun y hy => h y (by simp [hy])), List.length_cons, Nat.add_mul]
    have := h x (by simp)
    simp [intCells, this]; omega

/-- The last element of a slice of arrays. -/
theorem owns_last {w : World} {base : Nat} {e : TypeId} {k : Nat} {v : Value} {A : List (List Int)} {z : List Int} (h : w.ownsRow base e k v (A.length + 1) ((A ++ [z]).flatMap intCells)) (hA : ∀ x ∈ A, x.length = k) (hz : z.length = k) :
    ∃ g c, v = .slice (some ⟨g, 0, none⟩) (A.length + 1) c ∧ base ≤ g ∧ g < w.heap.size ∧ w.rangeAt g (A.length * k) (intCells z) := by
  obtain ⟨h1, ⟨hv, h2⟩ | ⟨g, c, cs, hv, hb, hc, hn, hm, hs, hx⟩⟩ := h
  · exact absurd h2 (by simp)
  · refine ⟨g, c, hv, hb, (Array.getElem?_eq_some_iff.1 hc).1, fun j u hj => ?_⟩
    have hj' : j < k := by have := (List.getElem?_eq_some_iff.1 hj).1; simpa [intCells, hz] using this
    have e1 : ((A ++ [z]).flatMap intCells)[A.length * k + j]? = some u := by
      rw [List.flatMap_append, List.getElem?_append_right (by rw [len_flat A k hA]; omega), len_flat A k hA, Nat.add_sub_cancel_left]
      simpa using hj
    rw [← hx, List.getElem?_take] at e1
    split at e1
    · simp only [World.cell?, hc]; simpa using e1
    · cases e1

theorem range_of_block {w : World} {g : Nat} {cs : Array Value} {t : TypeId} {fr : Nat × Nat} (h : w.heap[g]? = some (.cells cs t fr)) : w.rangeAt g 0 cs.toList := fun j u hj => by
  simp only [World.cell?, h, Nat.zero_add]; simpa using hj

end Go.SL

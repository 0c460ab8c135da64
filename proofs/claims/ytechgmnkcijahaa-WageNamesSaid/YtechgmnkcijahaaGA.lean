/-
  append: onto an empty slice, onto a full one; a copy of a list.
-/
import Derived.WalkKit
import Derived.WalkLawsBesides
import Derived.WalkSpells
import Derived.Outline
import Derived.Handy
import Derived.KernelRfl
import Derived.Lib.Hide
import Derived.Test.YtechgmnkcijahaaG
namespace Go.Proofs.Ytechgmnkcijahaa
open Go.RowKit Go.RG Go.SL Go.Shelf Cou
set_option maxHeartbeats 400000

/-- **append, in two cases.** -/
theorem run_append_two {P : Program} {w : World} {t e : TypeId} {z : Value} {size bytes : Nat} (hT : SliceT P t e z size bytes) (ty : TypeId) {base : Nat} {v : Value} {n : Nat} {xs : List Value} (hown : w.ownsRow base e size v n xs)
    {src : Value} {k : Nat} {news : List Value} (hsrc : SlAt size w src k news) (h1 : ∀ u ∈ news, u.oneCell' = true) (hb : (n + k) * bytes ≤ 140737488355328) (h63 : n + k ≤ 9223372036854775807) (hbase : base ≤ w.heap.size) :
    ∃ v' w', (Builtin.append_ #[t, t] ty #[v, src]).run P w = .ok v' w' ∧ w'.ownsRow base e size v' (n + k) (xs ++ news) ∧
      ((∃ g cap, v = .slice (some ⟨g, 0, none⟩) n cap ∧ n + k ≤ cap ∧ v' = .slice (some ⟨g, 0, none⟩) (n + k) cap ∧ Ext [g] w w') ∨ (Ext [] w w' ∧ v'.ownBlock = some w.heap.size) ∨ (Ext [] w w' ∧ v' = v)) := by
  obtain ⟨i, hi, hz, hs, hby⟩ := info_parts hT.info
  obtain ⟨o, c, rfl, hl, hn, hc⟩ := hsrc.news
  cases o with
  | none =>
    obtain ⟨rfl, rfl⟩ := hn rfl
    have : news = [] := List.eq_nil_of_length_eq_zero (by simpa using hl)
    subst this
    have hrun := run_append_owned_none (P := P) w base t ty e i size hT.und hi v n xs hown
    exact ⟨v, w, hrun, by simpa using hown, .inr (.inr ⟨Ext.refl _ _, rfl⟩)⟩
  | some a =>
    obtain ⟨v', w', h, h2, h3, _, h4⟩ := run_append_own_at (P := P) w base t ty e i z size bytes hT.und hi hz hs hby hT.cells hT.pos v n xs hown a k c news hl (hc a rfl) h1 (by simp only [maxLen]; omega) hb hbase
    refine ⟨v', w', h, h2, ?_⟩
    rcases hown.2 with ⟨rfl, rfl⟩ | ⟨g, cap, cur, rfl, hbg, hg, hnc, hcm, hcs, htake⟩
    · have hE : Ext [] w w' := ⟨h3.os, h3.tape, h3.output, h3.size, fun b hb _ => h3.block b hb (fun e => by cases e)⟩
      rcases h4 with h4 | h4
      · refine .inr (.inr ⟨hE, ?_⟩)
        obtain ⟨h5, ⟨h6, h7⟩ | ⟨g, cap, cur, rfl, _⟩⟩ := h2
        · exact h6
        · cases h4
      · exact .inr (.inl ⟨hE, h4⟩)
    · subst hs
      by_cases hroom : n + k ≤ cap
      · left
        have hfit : n * i.size + news.length ≤ cur.size := by rw [hl, hcs, ← Nat.add_mul]; exact Nat.mul_le_mul_right _ hroom
        have hr := run_append_room (P := P) w t ty e i hT.und hi g n cap cur hg a k c news hl (hc a rfl) h1 hroom hfit
        rw [hr] at h
        injection h with e1 e2
        exact ⟨g, cap, rfl, hroom, e1.symm, ⟨h3.os, h3.tape, h3.output, h3.size, fun b hb hm => h3.block b hb (fun e => hm (by simpa [Value.ownBlock] using e))⟩⟩
      · right; left
        have hr := run_append_grow (P := P) w t ty e i z hT.und hi hz ⟨g, 0, none⟩ n cap xs hown.1 (hown.cells (g := g) rfl) a k c news hl (hc a rfl) (by omega) (by omega) (growslice_fits (by omega) (by subst hby; exact hb))
        rw [hr] at h
        injection h with e1 e2
        subst e1 e2
        exact ⟨Ext.of_below ((Below.refl _ _).drew.alloc (Nat.le_refl _) _), rfl⟩

theorem does_append_two {P : Program} {w : World} {t e : TypeId} {z : Value} {size bytes : Nat} (hT : SliceT P t e z size bytes) {o : Oper} {ρ : Operand → Value} {s x : Operand}
    (hop : o.op = Op.call { callee := Callee.builtin Builtin.append, args := #[s, x], argTypes := #[t, t] }) {base : Nat} {v : Value} {n : Nat} {xs : List Value} (hs : ρ s = v) (hown : w.ownsRow base e size v n xs)
    {src : Value} {k : Nat} {news : List Value} (hx : ρ x = src) (hsrc : SlAt size w src k news) (h1 : ∀ u ∈ news, u.oneCell' = true) (hb : (n + k) * bytes ≤ 140737488355328) (h63 : n + k ≤ 9223372036854775807) (hbase : base ≤ w.heap.size) :
    Does P o ρ w (fun v' w' => w'.ownsRow base e size v' (n + k) (xs ++ news) ∧
      ((∃ g cap, v = .slice (some ⟨g, 0, none⟩) n cap ∧ n + k ≤ cap ∧ v' = .slice (some ⟨g, 0, none⟩) (n + k) cap ∧ Ext [g] w w') ∨ (Ext [] w w' ∧ v'.ownBlock = some w.heap.size) ∨ (Ext [] w w' ∧ v' = v))) := by
  obtain ⟨v', w', hrun, h2, h3⟩ := run_append_two (P := P) hT o.type hown hsrc h1 hb h63 hbase
  refine does_value (W' := w') v' ?_ ⟨h2, h3⟩
  simp [execOp, hop, resolve, invoke, builtin, hs, hx, hrun, Result.andThen]

/-- **append onto an empty slice.** -/
theorem does_append_empty {P : Program} {w : World} {t e : TypeId} {z : Value} {size bytes : Nat} (hT : SliceT P t e z size bytes) {o : Oper} {ρ : Operand → Value} {s x : Operand}
    (hop : o.op = Op.call { callee := Callee.builtin Builtin.append, args := #[s, x], argTypes := #[t, t] }) {base g : Nat} (hs : ρ s = .slice (some ⟨g, 0, none⟩) 0 0) (hg : base ≤ g) (hc : w.heap[g]? = some (.cells #[] e (0, 0)))
    {src : Value} {k : Nat} {news : List Value} (hx : ρ x = src) (hsrc : SlAt size w src k news) (h1 : ∀ u ∈ news, u.oneCell' = true) (hb : k * bytes ≤ 140737488355328) (h63 : k ≤ 9223372036854775807) (hbase : base ≤ w.heap.size) :
    Does P o ρ w (fun v' w' => w'.ownsRow base e size v' k news ∧ Ext [] w w') := by
  have hown : w.ownsRow base e size (.slice (some ⟨g, 0, none⟩) 0 0) 0 [] := ⟨by simp, .inr ⟨g, 0, #[], rfl, hg, hc, Nat.le_refl _, Nat.zero_le _, by simp, by simp⟩⟩
  refine Does.mono (does_append_two hT hop hs hown hx hsrc h1 (by simpa using hb) (by simpa using h63) hbase) ?_
  rintro v W' ⟨ho, hcase⟩
  rw [Nat.zero_add, List.nil_append] at ho
  refine ⟨ho, ?_⟩
  rcases hcase with ⟨g', cap, hv, hroom, hv', hE⟩ | ⟨hE, _⟩ | ⟨hE, _⟩
  · injection hv with e1 e2 e3
    injection e1 with e1
    injection e1 with e1
    subst e1 e3
    have hk : k = 0 := by omega
    subst hk
    obtain ⟨_, ⟨h2, _⟩ | ⟨g2, cap2, cur, h2, _, h3, _, _, h4, _⟩⟩ := ho
    · rw [hv'] at h2; cases h2
    · rw [hv'] at h2
      injection h2 with q1 q2 q3
      injection q1 with q1
      injection q1 with q1
      subst q1 q3
      have hcur : cur = #[] := by
        apply Array.eq_empty_of_size_eq_zero
        simpa using h4
      subst hcur
      refine ⟨hE.os, hE.tape, hE.output, hE.size, fun b hb _ => ?_⟩
      by_cases e : b = g
      · subst e
        rw [h3, hc]
      · exact hE.block b hb (by simpa using e)
  · exact hE
  · exact hE

/-- A copy of a list. -/
theorem run_copy_new (ty : TypeId) {W : World} {g : Nat} {rv : Value} {l : List Int} (hg : W.heap[g]? = some (.cells #[] 3 (0, 0))) (hs : IntsAt W rv l) (hl : l.length ≤ 1000) :
    ∃ o c W', (Builtin.append_ #[36, 36] ty #[.slice (some ⟨g, 0, none⟩) 0 0, rv]).run Try.prog W = .ok (.slice o l.length c) W' ∧ W'.ownsRow g 3 1 (.slice o l.length c) l.length (intCells l) ∧ Below g W W' := by
  have hlt := (Array.getElem?_eq_some_iff.1 hg).1
  have hown : W.ownsRow g 3 1 (.slice (some ⟨g, 0, none⟩) 0 0) 0 [] := ⟨by simp, .inr ⟨g, 0, #[], rfl, Nat.le_refl _, hg, Nat.le_refl _, Nat.zero_le _, by simp, by simp⟩⟩
  obtain ⟨v', W', h1, h2, h3, _⟩ := run_append_at (P := Try.prog) tInts ty hown hs (one_ints _) (by omega) (by omega) (by omega)
  rw [Nat.zero_add, List.nil_append] at h2
  obtain ⟨o, c, rfl⟩ := owns_slice h2
  exact ⟨o, c, W', h1, h2, h3.os, h3.tape, h3.output, h3.size, fun k hk => h3.block k (by omega) (fun e => by simp [Value.ownBlock] at e; omega)⟩

theorem wpList_wanted {P : Program} {ops : Array Oper} {Q : Exit → Act → World → Prop} {a : Act} {w : World} {rest : List Oper} {o : Oper} (hw : Region.wanted o (yielded ops a.tmps) = true)
    (h : ∀ K : Act → World → Prop, (∀ a w, wpList P ops Q rest a w → K a w) → o.wp P a w K Q) : wpList P ops Q (o :: rest) a w :=
  wpList_step fun K hK => by rw [if_pos hw]; exact h K hK

/-- append([]int{}, l...), guarded or not. -/
theorem wpList_copy {w : World} {ops : Array Oper} {rest : List Oper} {o : Oper} {a : Act} {Q : Exit → Act → World → Prop} (hw : Region.wanted o (yielded ops a.tmps) = true) (s x : Operand)
    (hop : o.op = Op.call { callee := Callee.builtin Builtin.append, args := #[s, x], argTypes := #[36, 36] }) {g : Nat} (hs : a.eval s = .slice (some ⟨g, 0, none⟩) 0 0) (hg : w.heap[g]? = some (.cells #[] 3 (0, 0)))
    (l : List Int) (rv : Value) (hx : a.eval x = rv) (hr : IntsAt w rv l) (hl : l.length ≤ 1000)
    (hK : ∀ oo c w', w'.ownsRow g 3 1 (.slice oo l.length c) l.length (intCells l) → Below g w w' → wpList Try.prog ops Q rest (a.put o.dst (.slice oo l.length c)) w') : wpList Try.prog ops Q (o :: rest) a w := by
  refine wpList_wanted hw fun K hK' => ?_
  obtain ⟨oo, c, w', hrun, h2, h3⟩ := run_copy_new o.type hg hr hl
  refine does_wp (R := fun v w'' => v = .slice oo l.length c ∧ w'' = w') (does_value (W' := w') (.slice oo l.length c) ?_ ⟨rfl, rfl⟩) ?_
  · simp [execOp, hop, resolve, invoke, builtin, hs, hx, hrun, Result.andThen]
  · rintro v w'' ⟨rfl, rfl⟩
    exact hK' _ _ (hK oo c _ h2 h3)

/-- A store into a list of the call's own. -/
theorem owns_setI {w : World} {base g n c k : Nat} {l : List Int} {y : Int} (h : w.ownsRow base 3 1 (.slice (some ⟨g, 0, none⟩) n c) n (intCells l)) (hk : k < n) :
    (w.setCell ⟨g, k, none⟩ (iv y)).ownsRow base 3 1 (.slice (some ⟨g, 0, none⟩) n c) n (intCells (l.set k y)) ∧ w.cell? ⟨g, k, none⟩ = some (iv (l.getD k 0)) ∧ w.frozen? ⟨g, k, none⟩ = false ∧ g < w.heap.size ∧ base ≤ g := by
  obtain ⟨h1, ⟨h2, h3⟩ | ⟨g', cap, cur, h2, hb, hg, hn, hm, hs, ht⟩⟩ := h
  · cases h2
  · cases h2
    have hll : l.length = n := by simpa [intCells] using h1
    refine ⟨⟨by simp [intCells, hll], .inr ⟨g, c, cur.setIfInBounds k (iv y), rfl, hb, set_block hg _, hn, hm, by simpa using hs, ?_⟩⟩, ?_, frozen_of_block hg k, (Array.getElem?_eq_some_iff.1 hg).1, hb⟩
    · rw [Nat.mul_one] at ht ⊢
      rw [Array.toList_setIfInBounds, List.take_set, ht]
      simp [intCells, List.map_set]
    · rw [Nat.mul_one] at ht hs
      simp only [World.cell?, hg]
      have h5 : cur.toList[k]? = (intCells l)[k]? := by rw [← ht, List.getElem?_take, if_pos hk]
      rw [Array.getElem?_toList] at h5
      show cur[k]? = _
      rw [h5]
      simp [intCells, List.getD, show k < l.length by omega]

/-- **append onto a full slice of its own.** -/
theorem does_append_full {P : Program} {w : World} {t e : TypeId} {z : Value} {size bytes : Nat} (hT : SliceT P t e z size bytes) {o : Oper} {ρ : Operand → Value} {s x : Operand}
    (hop : o.op = Op.call { callee := Callee.builtin Builtin.append, args := #[s, x], argTypes := #[t, t] }) {base g n : Nat} {cs : List Value} (hs : ρ s = .slice (some ⟨g, 0, none⟩) n n) (hg : base ≤ g) (hc : w.heap[g]? = some (.cells cs.toArray e (0, 0))) (hcs : cs.length = n * size) (hn : n ≤ maxLen)
    {src : Value} {k : Nat} {news : List Value} (hx : ρ x = src) (hsrc : SlAt size w src k news) (h1 : ∀ u ∈ news, u.oneCell' = true) (hb : (n + k) * bytes ≤ 140737488355328) (h63 : n + k ≤ 9223372036854775807) (hbase : base ≤ w.heap.size) :
    Does P o ρ w (fun v' w' => w'.ownsRow base e size v' (n + k) (cs ++ news) ∧ Ext [] w w') := by
  have hown : w.ownsRow base e size (.slice (some ⟨g, 0, none⟩) n n) n cs := ⟨hcs, .inr ⟨g, n, cs.toArray, rfl, hg, hc, Nat.le_refl _, hn, by simpa using hcs, by simp [← hcs]⟩⟩
  refine Does.mono (does_append_two hT hop hs hown hx hsrc h1 hb h63 hbase) ?_
  rintro v W' ⟨ho, hcase⟩
  refine ⟨ho, ?_⟩
  rcases hcase with ⟨g', cap, hv, hroom, hv', hE⟩ | ⟨hE, _⟩ | ⟨hE, _⟩
  · injection hv with e1 e2 e3
    injection e1 with e1
    injection e1 with e1
    subst e1 e3
    have hk : k = 0 := by omega
    subst hk
    obtain ⟨hl, ⟨h2, _⟩ | ⟨g2, cap2, cur, h2, _, h3, _, _, h4, h5⟩⟩ := ho
    · rw [hv'] at h2; cases h2
    · rw [hv'] at h2
      injection h2 with q1 q2 q3
      injection q1 with q1
      injection q1 with q1
      subst q1 q3
      have hnews : news = [] := by
        have : (cs ++ news).length = n * size := by simpa using hl
        rw [List.length_append, hcs] at this
        exact List.eq_nil_of_length_eq_zero (by omega)
      rw [hnews, List.append_nil, Nat.add_zero, List.take_of_length_le (by rw [Array.length_toList, h4]; exact Nat.le_refl _)] at h5
      refine ⟨hE.os, hE.tape, hE.output, hE.size, fun b hb _ => ?_⟩
      by_cases e : b = g
      · subst e
        rw [h3, hc, ← h5]
      · exact hE.block b hb (by simpa using e)
  · exact hE
  · exact hE
end Go.Proofs.Ytechgmnkcijahaa


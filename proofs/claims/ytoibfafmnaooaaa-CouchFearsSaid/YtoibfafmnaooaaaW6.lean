/-
  Contracts of package couch, fifth part: the heap at work, and what spots cool to.
-/
import Derived.WalkKit
import Derived.WalkLawsBesides
import Derived.WalkSpells
import Derived.Outline
import Derived.Handy
import Derived.KernelRfl
import Derived.Lib.Hide
import Derived.Test.YtoibfafmnaooaaaW5
namespace Go.Proofs.Ytoibfafmnaooaaa
open Go.RowKit Go.RG Go.SL Go.Shelf Cou
set_option maxHeartbeats 400000
set_option maxRecDepth 10000

abbrev sv (n : Int) (t : Bool) : Value := .agg #[iv n, .bool t]

theorem eq_spot (n m : Int) (t u : Bool) (w : World) : (Op.equal 153 (sv n t) (sv m u)).run Try.prog w = .ok ((n == m) && (t == u)) w := by
  unfold Op.equal Op.maxDepth
  simp [go_sem]
  by_cases h1 : n = m <;> by_cases h2 : t = u <;> simp [h1, h2]

theorem check_int (b : Bool) (d : Nat) (n : Int) (w : World) : (Instr.checkKey b (d + 1) 3 (iv n)).run Try.prog w = .ok () w := by
  unfold Instr.checkKey
  simp [go_sem]
theorem check_bool (b : Bool) (d : Nat) (t : Bool) (w : World) : (Instr.checkKey b (d + 1) 4 (.bool t)).run Try.prog w = .ok () w := by
  unfold Instr.checkKey
  simp [go_sem]
theorem check_spot (b : Bool) (n : Int) (t : Bool) (w : World) : (Instr.checkKey b 10000 153 (sv n t)).run Try.prog w = .ok () w := by
  unfold Instr.checkKey
  simp [go_sem]
  rw [check_int, Result.andThen_ok, check_bool]

/-- An entry of the table of what spots cool to. -/
def Entry (cool : Int) (e : MapEntry) : Prop := ∃ n t, e.key = sv n t ∧ e.val = iv (cooled cool n t)

theorem find_spot (cool : Int) (n : Int) (t : Bool) : ∀ (es : List MapEntry) (i : Nat), (∀ e ∈ es, Entry cool e) →
    ∃ r, (∀ w, (Instr.findAsking 153 (sv n t) es i).run Try.prog w = .ok r w) ∧ (∀ j v, r = some (j, v) → v = iv (cooled cool n t) ∧ i ≤ j ∧ j - i < es.length ∧ ∃ e, es[j - i]? = some e ∧ e.key = sv n t) := by
  intro es
  induction es with
  | nil => intro i _; exact ⟨none, fun _ => rfl, fun j v h => by cases h⟩
  | cons e es ih =>
    intro i h
    obtain ⟨m, u, hk, hv⟩ := h e (by simp)
    unfold Instr.findAsking
    simp only [Sem.run_bind, hk, eq_spot, Result.andThen_ok]
    by_cases hc : ((n == m) && (t == u)) = true
    · refine ⟨some (i, e.val), fun w => by rw [if_pos hc]; rfl, fun j v hj => ?_⟩
      simp only [Option.some.injEq, Prod.mk.injEq] at hj
      simp only [Bool.and_eq_true, beq_iff_eq] at hc
      refine ⟨by rw [← hj.2, hv, hc.1, hc.2], by omega, by simp; omega, e, ?_, by rw [hk, hc.1, hc.2]⟩
      rw [← hj.1]; simp
    · obtain ⟨r, h1, h2⟩ := ih (i + 1) (fun x hx => h x (by simp [hx]))
      refine ⟨r, fun w => by rw [if_neg hc]; exact h1 w, fun j v hj => ?_⟩
      obtain ⟨h3, h4, h5, e', h6, h7⟩ := h2 j v hj
      refine ⟨h3, by omega, by simp; omega, e', ?_, h7⟩
      rw [show j - i = (j - (i + 1)) + 1 from by omega, List.getElem?_cons_succ]
      exact h6

theorem key_spot (cool : Int) (n : Int) (t : Bool) (es : List MapEntry) (h : ∀ e ∈ es, Entry cool e) :
    ∃ r, (∀ w, (Instr.findKey 153 (sv n t) es).run Try.prog w = .ok r w) ∧ (∀ j v, r = some (j, v) → v = iv (cooled cool n t) ∧ j < es.length ∧ ∃ e, es[j]? = some e ∧ e.key = sv n t) := by
  unfold Instr.findKey
  simp only [Sem.run_bind, run_underlying Try.underlying153, Result.andThen_ok]
  cases es with
  | nil => exact ⟨none, fun _ => rfl, fun j v h => by cases h⟩
  | cons e es =>
    simp only [Instr.findNow, Instr.sameNow]
    obtain ⟨r, h1, h2⟩ := find_spot cool n t (e :: es) 0 h
    exact ⟨r, h1, fun j v hj => by
      obtain ⟨a, b, c, d⟩ := h2 j v hj
      exact ⟨a, by simpa using c, by simpa using d⟩⟩

/-- The table in block mb holds what spots cool to, and nothing else. -/
def Cache (W : World) (mb : Nat) (cool : Int) : Prop := ∃ es clock, W.heap[mb]? = some (.map es clock) ∧ ∀ e ∈ es.toList, Entry cool e

theorem Cache.kept {W W' : World} {mb : Nat} {cool : Int} (h : Cache W mb cool) (hk : W'.heap[mb]? = W.heap[mb]?) : Cache W' mb cool := by
  obtain ⟨es, c, h1, h2⟩ := h; exact ⟨es, c, hk.trans h1, h2⟩
theorem Cache.lt {W : World} {mb : Nat} {cool : Int} (h : Cache W mb cool) : mb < W.heap.size := by
  obtain ⟨es, c, h1, h2⟩ := h; exact (Array.getElem?_eq_some_iff.1 h1).1

theorem look_spot {W0 : World} {mb : Nat} {cool : Int} (h : Cache W0 mb cool) (n : Int) (t : Bool) :
    ∃ x ok, (ok = true → x = cooled cool n t) ∧ ∀ W : World, W.heap[mb]? = W0.heap[mb]? →
      (Instr.lookup 116 (.map (some mb)) (sv n t) true).run Try.prog W = .ok (.tuple #[iv x, .bool ok]) W := by
  obtain ⟨es, c, h1, h2⟩ := h
  obtain ⟨r, hr, hv⟩ := key_spot cool n t es.toList h2
  have hobj : ∀ W : World, W.heap[mb]? = W0.heap[mb]? → (getObj mb).run Try.prog W = .ok (.map es c) W := fun W hW => by
    simp [getObj, Sem.run, hW, h1]
  have hz : ∀ W : World, (zeroValue 3).run Try.prog W = .ok (iv 0) W := fun W => by simp [go_sem]
  cases r with
  | none =>
    refine ⟨0, false, (fun h => by cases h), fun W hW => ?_⟩
    simp [Instr.lookup, run_underlying Try.underlying116, hobj W hW, check_spot, hr, hz]
  | some p =>
    obtain ⟨j, v⟩ := p
    obtain ⟨rfl, _⟩ := hv j v rfl
    refine ⟨cooled cool n t, true, fun _ => rfl, fun W hW => ?_⟩
    simp [Instr.lookup, run_underlying Try.underlying116, hobj W hW, check_spot, hr]

theorem sameBits_spot (n : Int) (t : Bool) : Instr.sameBits 10000 (sv n t) (sv n t) = true := by
  simp [Instr.sameBits]

theorem update_spot {W : World} {mb : Nat} {cool : Int} (h : Cache W mb cool) (n : Int) (t : Bool) :
    ∃ W', (Instr.mapUpdate 116 (.map (some mb)) (sv n t) (iv (cooled cool n t))).run Try.prog W = .ok () W' ∧ Cache W' mb cool ∧ Ext [mb] W W' := by
  have hlt := h.lt
  obtain ⟨es, c, h1, h2⟩ := h
  obtain ⟨r, hr, hv⟩ := key_spot cool n t es.toList h2
  have hobj : (getObj mb).run Try.prog W = .ok (.map es c) W := by simp [getObj, Sem.run, h1]
  have hset : ∀ es' c', (setObj mb (.map es' c')).run Try.prog W = .ok () { W with heap := W.heap.setIfInBounds mb (.map es' c') } := fun es' c' => by
    simp [setObj, Sem.run, h1]
  have hext : ∀ o : Obj, Ext [mb] W { W with heap := W.heap.setIfInBounds mb o } := fun o =>
    ⟨rfl, rfl, rfl, by simp, fun k _ hm => by simp only [Array.getElem?_setIfInBounds]; rw [if_neg (by simp at hm; omega)]⟩
  have hcache : ∀ es' c', (∀ e ∈ es'.toList, Entry cool e) → Cache { W with heap := W.heap.setIfInBounds mb (.map es' c') } mb cool := fun es' c' he =>
    ⟨es', c', by simp [hlt], he⟩
  cases r with
  | none =>
    refine ⟨_, ?_, hcache (es.push { key := sv n t, val := iv (cooled cool n t), born := c }) (c + 1) ?_, hext _⟩
    · simp [Instr.mapUpdate, run_underlying Try.underlying116, hobj, check_spot, hr, hset]
    · intro e he
      simp only [Array.toList_push, List.mem_append, List.mem_singleton] at he
      rcases he with he | rfl
      · exact h2 e he
      · exact ⟨n, t, rfl, rfl⟩
  | some p =>
    obtain ⟨j, v⟩ := p
    obtain ⟨rfl, hj, e0, he0, hk0⟩ := hv j v rfl
    have hje : es[j]? = some e0 := by simpa using he0
    refine ⟨_, ?_, hcache (es.modify j fun e => { e with key := sv n t, val := iv (cooled cool n t) }) c ?_, hext _⟩
    · simp [Instr.mapUpdate, run_underlying Try.underlying116, hobj, check_spot, hr, hset, Instr.keyThatStays, hje, hk0, sameBits_spot]
    · intro e he
      obtain ⟨i, hi, rfl⟩ := List.getElem_of_mem he
      simp only [Array.getElem_toList, Array.getElem_modify]
      split
      · exact ⟨n, t, rfl, rfl⟩
      · exact h2 _ (by simp)

/-- The cells of a heap at work. -/
abbrev wcells (h : HeapD) (a b c : Value) (mb : Nat) : Array Value :=
  #[.int .i64 h.last, .int .i64 h.size, .int .i64 h.cool, .int .i64 h.die, .int .i64 h.burn, .int .i64 h.start.1, .int .i64 h.start.2, a, b, c, .map (some mb)]

/-- A heap at work lies in block wb, its table in block mb. -/
structure WorkAt (W : World) (wb mb : Nat) (h : HeapD) (a b c : Value) : Prop where
  cells : W.heap[wb]? = some (.cells (wcells h a b c mb) 118 (0, 0))
  cache : Cache W mb h.cool

theorem WorkAt.ne {W : World} {wb mb : Nat} {h : HeapD} {a b c : Value} (hw : WorkAt W wb mb h a b c) : wb ≠ mb := by
  intro e
  obtain ⟨es, k, h1, _⟩ := hw.cache
  have := hw.cells
  rw [e, h1] at this
  cases this
theorem WorkAt.lt {W : World} {wb mb : Nat} {h : HeapD} {a b c : Value} (hw : WorkAt W wb mb h a b c) : wb < W.heap.size := (Array.getElem?_eq_some_iff.1 hw.cells).1
theorem WorkAt.kept {W W' : World} {wb mb : Nat} {h : HeapD} {a b c : Value} (hw : WorkAt W wb mb h a b c) (h1 : W'.heap[wb]? = W.heap[wb]?) (h2 : W'.heap[mb]? = W.heap[mb]?) : WorkAt W' wb mb h a b c :=
  ⟨h1.trans hw.cells, hw.cache.kept h2⟩
theorem WorkAt.below {W W' : World} {wb mb : Nat} {h : HeapD} {a b c : Value} (hw : WorkAt W wb mb h a b c) {B : Nat} (hb : Below B W W') (hB : W.heap.size ≤ B) : WorkAt W' wb mb h a b c :=
  hw.kept (hb.block _ (by have := hw.lt; omega)) (hb.block _ (by have := hw.cache.lt; omega))
/-- Behind whatever turned the table alone. -/
theorem WorkAt.ext {W W' : World} {wb mb : Nat} {h : HeapD} {a b c : Value} (hw : WorkAt W wb mb h a b c) (hE : Ext [mb] W W') (hc : Cache W' mb h.cool) : WorkAt W' wb mb h a b c :=
  ⟨(hE.block wb hw.lt (by simpa using hw.ne)).trans hw.cells, hc⟩
theorem WorkAt.cell {W : World} {wb mb : Nat} {h : HeapD} {a b c : Value} (hw : WorkAt W wb mb h a b c) (i : Nat) : W.cell? ⟨wb, i, none⟩ = (wcells h a b c mb)[i]? := by
  simp [World.cell?, hw.cells]

def WorkPost (w : World) (h : HeapD) (a b c : Value) (e : Ending) (W : World) : Prop :=
  ∃ wb mb, e = .returned (.pointer (some ⟨wb, 0, none⟩)) ∧ w.heap.size ≤ wb ∧ w.heap.size ≤ mb ∧ WorkAt W wb mb h a b c ∧ Below w.heap.size w W

theorem work_any (h : HeapD) (ow ot ox : Option Addr) (nw cw nt ct nx cx : Nat) (w : World) :
    Calls Try.prog 71 #[hv h (.slice ow nw cw) (.slice ot nt ct) (.slice ox nx cx)] w (WorkPost w h (.slice ow nw cw) (.slice ot nt ct) (.slice ox nx cx)) := by
  have hmm := @run_makeMap Try.prog
  go_enter Try.func71, Try.ntmps71
  go_wp2
  go_returns
  refine ⟨w.heap.size + 2, w.heap.size + 1, by simp, by omega, by omega, ⟨heap_new2 _ _ _ _, #[], 0, ?_, by simp⟩, (by repeat (first | exact Below.refl _ _ | assumption | refine bgo ?_ (by assumption) | refine bgoAlloc ?_ _ | refine bgoDrew ?_ | refine bgoSet ?_ (by simp; omega) _))⟩
  exact (Below.heap_alloc _ _ _ (by simp)).trans (heap_new1 _ _ _)

theorem cool_any (h : HeapD) (a b c : Value) (wb mb : Nat) (n : Int) (t : Bool) (w : World) (hw : WorkAt w wb mb h a b c) (hn0 : 0 ≤ n) (hn1 : n ≤ 100000) (hc0 : 0 ≤ h.cool) (hc1 : h.cool ≤ 100) :
    Calls Try.prog 111 #[.pointer (some ⟨wb, 0, none⟩), sv n t] w (fun e w' => e = .returned (iv (cooled h.cool n t)) ∧ Cache w' mb h.cool ∧ Ext [mb] w w') := by
  have c2 := hw.cell 2
  have c10 := hw.cell 10
  have hlt := hw.lt
  have hwc := hw.cache
  obtain ⟨x, ok, hx, hlook⟩ := look_spot (hwc) n t
  simp at c2 c10
  have hm0 : 0 ≤ n * h.cool := Int.mul_nonneg hn0 hc0
  have hm1 : n * h.cool ≤ 100000 * 100 := Int.mul_le_mul hn1 hc1 hc0 (by omega)
  have HW := Lib.hid hw
  have HC := Lib.hid hwc
  have HX := Lib.hid hx
  have HL := Lib.hid hlook
  clear hw hwc hx hlook
  have hmb := HC.out.lt
  have HU := Lib.hid (fun (W2 : World) (hc : Cache W2 mb h.cool) => update_spot hc n t)
  cases ok
  · cases t
    all_goals
      go_enter Try.func111, Try.ntmps111
      go_wp2_with fail
      refine wp_region_rg 11 [] none [] (by kernel_rfl) (by kernel_rfl) ?_
      simp only [List.take_succ_cons, List.take_zero, List.drop_succ_cons, List.drop_zero]
      repeat (refine tree_det (by rfl) _ (by rfl) (fun W hW => by go_simp; (try simp (disch := omega) only [IntWalk.i64_in, Int.tdiv_eq_ediv_of_nonneg]); try rfl) ?_; simp only [Act.put, List.setIfInBounds_toArray, List.set_cons_succ, List.set_cons_zero])
      refine tree_det_on (by rfl) _ (by rfl) (fun W hE _ => by have := HL.out W ((hE.block mb (by simp; omega) (by simp)).trans (Below.heap_alloc _ _ _ hmb)); go_simp; try rfl) ?_
      simp only [Act.put, List.setIfInBounds_toArray, List.set_cons_succ, List.set_cons_zero]
      repeat (refine tree_det (by rfl) _ (by rfl) (fun W hW => by go_simp; (try simp (disch := omega) only [IntWalk.i64_in, Int.tdiv_eq_ediv_of_nonneg]); try rfl) ?_; simp only [Act.put, List.setIfInBounds_toArray, List.set_cons_succ, List.set_cons_zero])
      intro W hE hF
      obtain ⟨hc, hf⟩ := bcell hE.below
      have hzE := hE.size
      (try simp only [World.size_alloc] at hzE)
      have hzw : wb < W.heap.size := by omega
      have hz0 : w.heap.size < W.heap.size := by omega
      go_wp2_with fail
      refine wp_region_rg 6 [] none [] (by kernel_rfl) (by kernel_rfl) ?_
      simp only [List.take_succ_cons, List.take_zero, List.drop_succ_cons, List.drop_zero]
      repeat (refine tree_det (by rfl) _ (by rfl) (fun W hW => by go_simp; (try simp (disch := omega) only [IntWalk.i64_in, Int.tdiv_eq_ediv_of_nonneg]); try rfl) ?_; simp only [Act.put, List.setIfInBounds_toArray, List.set_cons_succ, List.set_cons_zero])
      intro W2 hE2 hF2
      have hW2 : Below w.heap.size w W2 := (bgo (bgo (bgoAlloc (Below.refl _ _) _) hE.below) hE2.below)
      clear hc hf hzE hF hF2
      obtain ⟨W3, hrun, hcache, hext⟩ := HU.out W2 (HC.out.kept (W' := W2) (hW2.block mb hmb))
      have HA := Lib.hid hcache
      have HE := Lib.hid hext
      clear hcache hext
      first | (simp only [show cooled h.cool n false = n from rfl] at hrun) | (simp only [show cooled h.cool n true = n - n * h.cool / 100 from rfl] at hrun)
      go_wp2_with fail
      go_returns
      refine ⟨by simp [cooled], HA.out, ?_⟩
      have hEw : Ext [mb] w W2 := ⟨hW2.os, hW2.tape, hW2.output, hW2.size, fun k hk _ => hW2.block k hk⟩
      exact hEw.trans HE.out
  · go_enter Try.func111, Try.ntmps111
    go_wp2_with fail
    refine wp_region_rg 11 [] none [] (by kernel_rfl) (by kernel_rfl) ?_
    simp only [List.take_succ_cons, List.take_zero, List.drop_succ_cons, List.drop_zero]
    repeat (refine tree_det (by rfl) _ (by rfl) (fun W hW => by go_simp; (try simp (disch := omega) only [IntWalk.i64_in, Int.tdiv_eq_ediv_of_nonneg]); try rfl) ?_; simp only [Act.put, List.setIfInBounds_toArray, List.set_cons_succ, List.set_cons_zero])
    refine tree_det_on (by rfl) _ (by rfl) (fun W hE _ => by have := HL.out W ((hE.block mb (by simp; omega) (by simp)).trans (Below.heap_alloc _ _ _ hmb)); go_simp; try rfl) ?_
    simp only [Act.put, List.setIfInBounds_toArray, List.set_cons_succ, List.set_cons_zero]
    repeat (refine tree_det (by rfl) _ (by rfl) (fun W hW => by go_simp; (try simp (disch := omega) only [IntWalk.i64_in, Int.tdiv_eq_ediv_of_nonneg]); try rfl) ?_; simp only [Act.put, List.setIfInBounds_toArray, List.set_cons_succ, List.set_cons_zero])
    intro W hE hF
    obtain ⟨hc, hf⟩ := bcell hE.below
    have hzE := hE.size
    (try simp only [World.size_alloc] at hzE)
    have hW : Below w.heap.size w W := bgo (bgoAlloc (Below.refl _ _) _) hE.below
    go_wp2_with fail
    go_returns
    refine ⟨by rw [← HX.out (by trivial)]; simp, HC.out.kept (hW.block mb hmb), Ext.of_below hW⟩

end Go.Proofs.Ytoibfafmnaooaaa

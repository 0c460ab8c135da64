/-
  Tables: a map whose keys are told by plain data (structs, arrays), with what it holds told by a plain list of pairs. Lemmas over any program.
-/
import Derived.WalkKit
import Derived.WalkLawsBesides
import Derived.WalkSpells
import Derived.Outline
import Derived.Handy
import Derived.KernelRfl
import Derived.Lib.Hide
import Derived.Test.YtechgmnkcijahaaG
import Derived.WideKeyRuns
set_option linter.unusedSectionVars false
namespace Go.TB
open Go.RowKit Go.RG Go.SL

section
variable {α β : Type} [DecidableEq α] {P : Program}

/-- A key's type: what a key is, and what the checks of the machine say of it. -/
structure KeyT (P : Program) (k : TypeId) (kv : α → Value) (ok : α → Prop) : Prop where
  find : ∀ (w : World) (x : Value) (es : List MapEntry), (Instr.findKey k x es).run P w = (Instr.findAsking k x es).run P w
  check : ∀ (b : Bool) (a : α) (w : World), ok a → (Instr.checkKey b 10000 k (kv a)).run P w = .ok () w
  eq : ∀ (a b : α) (w : World), ok a → ok b → (Op.equal k (kv a) (kv b)).run P w = .ok (decide (a = b)) w
  bits : ∀ a, ok a → Instr.sameBits 10000 (kv a) (kv a) = true

def look (a : α) : List (α × β) → Option β
  | [] => none
  | x :: T => if a = x.1 then some x.2 else look a T
def store (a : α) (v : β) : List (α × β) → List (α × β)
  | [] => [(a, v)]
  | x :: T => if a = x.1 then (a, v) :: T else x :: store a v T

theorem look_store (a : α) (v : β) (b : α) : ∀ T : List (α × β), look b (store a v T) = if b = a then some v else look b T := by
  intro T
  induction T with
  | nil => simp only [store, look]
  | cons x T ih =>
    simp only [store]
    by_cases h : a = x.1
    · rw [if_pos h]
      simp only [look]
      by_cases hb : b = a
      · rw [if_pos hb]; simp [hb]
      · rw [if_neg hb]; simp [hb, show ¬ b = x.1 from fun e => hb (by rw [e, h])]
    · rw [if_neg h]
      simp only [look]
      by_cases hx : b = x.1
      · rw [if_pos hx, if_pos hx, if_neg (by rw [hx]; exact fun e => h e.symm)]
      · rw [if_neg hx, if_neg hx, ih]

theorem look_mem {a : α} {v : β} : ∀ {T : List (α × β)}, look a T = some v → (a, v) ∈ T := by
  intro T
  induction T with
  | nil => intro h; cases h
  | cons x T ih =>
    intro h
    simp only [look] at h
    split at h
    · rename_i hx
      cases h
      exact List.mem_cons.2 (.inl (by rw [hx]))
    · exact List.mem_cons_of_mem _ (ih h)

theorem mem_store {a : α} {v : β} {x : α × β} : ∀ {T : List (α × β)}, x ∈ store a v T → x = (a, v) ∨ x ∈ T := by
  intro T
  induction T with
  | nil => intro h; simpa [store] using h
  | cons y T ih =>
    intro h
    simp only [store] at h
    split at h
    · rcases List.mem_cons.1 h with h | h
      · exact .inl h
      · exact .inr (by simp [h])
    · rcases List.mem_cons.1 h with h | h
      · exact .inr (by simp [h])
      · exact (ih h).imp id (fun h => by simp [h])

/-- The table lies in block mb. -/
def TabAt (kv : α → Value) (vv : β → Value) (ok : α → Prop) (W : World) (mb : Nat) (T : List (α × β)) : Prop :=
  (∀ x ∈ T, ok x.1) ∧ ∃ es clock, W.heap[mb]? = some (.map es clock) ∧ es.toList.map (fun e => (e.key, e.val)) = T.map fun x => (kv x.1, vv x.2)

variable {kv : α → Value} {vv : β → Value} {ok : α → Prop}

theorem TabAt.kept {W W' : World} {mb : Nat} {T : List (α × β)} (h : TabAt kv vv ok W mb T) (hk : W'.heap[mb]? = W.heap[mb]?) : TabAt kv vv ok W' mb T := by
  obtain ⟨h0, es, c, h1, h2⟩ := h; exact ⟨h0, es, c, hk.trans h1, h2⟩
theorem TabAt.lt {W : World} {mb : Nat} {T : List (α × β)} (h : TabAt kv vv ok W mb T) : mb < W.heap.size := by
  obtain ⟨_, es, c, h1, h2⟩ := h; exact (Array.getElem?_eq_some_iff.1 h1).1
theorem TabAt.below {W W' : World} {mb : Nat} {T : List (α × β)} (h : TabAt kv vv ok W mb T) {B : Nat} (hb : Below B W W') (hB : W.heap.size ≤ B) : TabAt kv vv ok W' mb T :=
  h.kept (hb.block _ (by have := h.lt; omega))
theorem TabAt.ext {W W' : World} {mb : Nat} {T : List (α × β)} (h : TabAt kv vv ok W mb T) {Ms : List Nat} (hE : Ext Ms W W') (hm : mb ∉ Ms) : TabAt kv vv ok W' mb T :=
  h.kept (hE.block _ h.lt hm)
theorem TabAt.noCell {W : World} {mb : Nat} {T : List (α × β)} (h : TabAt kv vv ok W mb T) (o : Nat) : W.cell? ⟨mb, o, none⟩ = none := by
  obtain ⟨_, es, c, h1, _⟩ := h
  simp [World.cell?, h1]
theorem TabAt.noCells {W : World} {mb : Nat} {T : List (α × β)} (h : TabAt kv vv ok W mb T) (cs : Array Value) (t : TypeId) (f : Nat × Nat) : W.heap[mb]? ≠ some (.cells cs t f) := by
  obtain ⟨_, es, c, h1, _⟩ := h
  rw [h1]; intro e; cases e
theorem TabAt.ne {W : World} {mb b : Nat} {T : List (α × β)} (h : TabAt kv vv ok W mb T) {cs : Array Value} {t : TypeId} {f : Nat × Nat} (hb : W.heap[b]? = some (.cells cs t f)) : b ≠ mb := by
  intro e; subst e; exact h.noCells _ _ _ hb

theorem find_tab {k : TypeId} (K : KeyT P k kv ok) (a : α) (ha : ok a) (v : β) : ∀ (T : List (α × β)) (es : List MapEntry) (i : Nat), (∀ x ∈ T, ok x.1) → es.map (fun e => (e.key, e.val)) = T.map (fun x => (kv x.1, vv x.2)) →
    (look a T = none ∧ store a v T = T ++ [(a, v)] ∧ ∀ w, (Instr.findAsking k (kv a) es i).run P w = .ok none w) ∨
    (∃ j b, look a T = some b ∧ store a v T = T.set j (a, v) ∧ j < T.length ∧ (∃ e, es[j]? = some e ∧ e.key = kv a) ∧ ∀ w, (Instr.findAsking k (kv a) es i).run P w = .ok (some (i + j, vv b)) w) := by
  intro T
  induction T with
  | nil =>
    intro es i _ he
    have : es = [] := by simpa using he
    subst this
    exact .inl ⟨rfl, rfl, fun _ => rfl⟩
  | cons x T ih =>
    intro es i hok he
    cases es with
    | nil => simp at he
    | cons e es =>
      simp only [List.map_cons, List.cons.injEq, Prod.mk.injEq] at he
      obtain ⟨⟨hk, hv⟩, hr⟩ := he
      have hrun : ∀ w, (Instr.findAsking k (kv a) (e :: es) i).run P w = if a = x.1 then .ok (some (i, e.val)) w else (Instr.findAsking k (kv a) es (i + 1)).run P w := fun w => by
        conv => lhs; unfold Instr.findAsking
        simp only [Sem.run_bind, hk, K.eq a x.1 w ha (hok x (by simp)), Result.andThen_ok]
        by_cases h : a = x.1
        · simp [h]
        · simp [h]
      by_cases h : a = x.1
      · refine .inr ⟨0, x.2, by simp [look, h], by simp [store, h], by simp, ⟨e, by simp, by rw [hk, h]⟩, fun w => ?_⟩
        rw [hrun, if_pos h, hv]; rfl
      · rcases ih es (i + 1) (fun y hy => hok y (by simp [hy])) hr with ⟨h1, h2, h3⟩ | ⟨j, b, h1, h2, h3, ⟨e', h4, h4'⟩, h5⟩
        · refine .inl ⟨by simp [look, h, h1], by simp [store, h, h2], fun w => ?_⟩
          rw [hrun, if_neg h]; exact h3 w
        · refine .inr ⟨j + 1, b, by simp [look, h, h1], by simp [store, h, h2], by simpa using h3, ⟨e', by simpa using h4, h4'⟩, fun w => ?_⟩
          rw [hrun, if_neg h, h5 w]
          rw [show i + 1 + j = i + (j + 1) from by omega]

theorem look_run {k e mt : TypeId} (K : KeyT P k kv ok) (hm : P.underlying mt = some (.map k e)) {z : Value} (hz : ∀ w, (zeroValue e).run P w = .ok z w) {W0 : World} {mb : Nat} {T : List (α × β)} (h : TabAt kv vv ok W0 mb T) (a : α) (ha : ok a)
    (cm : Bool) (W : World) (hW : W.heap[mb]? = W0.heap[mb]?) :
    (Instr.lookup mt (.map (some mb)) (kv a) cm).run P W = .ok (if cm then .tuple #[((look a T).map vv).getD z, .bool (look a T).isSome] else ((look a T).map vv).getD z) W := by
  obtain ⟨h0, es, c, h1, h2⟩ := h
  have hobj : (getObj mb).run P W = .ok (.map es c) W := by simp [getObj, Sem.run, hW, h1]
  have hf := K.find W (kv a) es.toList
  cases hlk : look a T with
  | none =>
    have hr : (Instr.findAsking k (kv a) es.toList).run P W = .ok none W := by
      by_cases hT : ∃ b : β, True
      · obtain ⟨b, _⟩ := hT
        rcases find_tab K a ha b T es.toList 0 h0 h2 with ⟨_, _, h5⟩ | ⟨j, b', h3, _⟩
        · exact h5 W
        · rw [hlk] at h3; cases h3
      · have hTn : T = [] := by
          cases T with
          | nil => rfl
          | cons x T => exact absurd ⟨x.2, trivial⟩ hT
        subst hTn
        have : es.toList = [] := by simpa using h2
        rw [this]
        rfl
    rw [hr] at hf
    cases cm <;> simp [Instr.lookup, run_underlying hm, hobj, K.check _ a _ ha, hf, hz]
  | some b =>
    rcases find_tab K a ha b T es.toList 0 h0 h2 with ⟨h3, _⟩ | ⟨j, b', h3, _, _, _, h5⟩
    · rw [hlk] at h3; cases h3
    · rw [hlk] at h3; cases h3
      rw [h5 W] at hf
      cases cm <;> simp [Instr.lookup, run_underlying hm, hobj, K.check _ a _ ha, hf]

theorem store_run {k e mt : TypeId} (K : KeyT P k kv ok) (hm : P.underlying mt = some (.map k e)) {W : World} {mb : Nat} {T : List (α × β)} (h : TabAt kv vv ok W mb T) (a : α) (ha : ok a) (v : β) :
    ∃ W', (Instr.mapUpdate mt (.map (some mb)) (kv a) (vv v)).run P W = .ok () W' ∧ TabAt kv vv ok W' mb (store a v T) ∧ Ext [mb] W W' := by
  have hlt := h.lt
  obtain ⟨h0, es, c, h1, h2⟩ := h
  have hobj : (getObj mb).run P W = .ok (.map es c) W := by simp [getObj, Sem.run, h1]
  have hset : ∀ es' c', (setObj mb (.map es' c')).run P W = .ok () { W with heap := W.heap.setIfInBounds mb (.map es' c') } := fun es' c' => by
    simp [setObj, Sem.run, h1]
  have hext : ∀ o : Obj, Ext [mb] W { W with heap := W.heap.setIfInBounds mb o } := fun o =>
    ⟨rfl, rfl, rfl, by simp, fun k _ hm => by simp only [Array.getElem?_setIfInBounds]; rw [if_neg (by simp at hm; omega)]⟩
  have hok : ∀ x ∈ store a v T, ok x.1 := fun x hx => by
    rcases mem_store hx with rfl | hx
    · exact ha
    · exact h0 x hx
  have hf := K.find W (kv a) es.toList
  rcases find_tab K a ha v T es.toList 0 h0 h2 with ⟨_, h4, h5⟩ | ⟨j, b, _, h4, hj, ⟨e0, he0, hk0⟩, h5⟩
  · rw [h5 W] at hf
    refine ⟨{ W with heap := W.heap.setIfInBounds mb (.map (es.push { key := kv a, val := vv v, born := c }) (c + 1)) }, ?_, ⟨hok, es.push { key := kv a, val := vv v, born := c }, c + 1, by simp [hlt], ?_⟩, hext _⟩
    · simp [Instr.mapUpdate, run_underlying hm, hobj, K.check _ a _ ha, hf, hset]
    · rw [h4]; simp [h2]
  · rw [h5 W] at hf
    have hje : es[j]? = some e0 := by simpa using he0
    refine ⟨{ W with heap := W.heap.setIfInBounds mb (.map (es.modify j fun e => { e with key := kv a, val := vv v }) c) }, ?_, ⟨hok, es.modify j fun e => { e with key := kv a, val := vv v }, c, by simp [hlt], ?_⟩, hext _⟩
    · simp [Instr.mapUpdate, run_underlying hm, hobj, K.check _ a _ ha, hf, hset, Instr.keyThatStays, hje, hk0, K.bits a ha]
    · rw [h4, List.map_set, ← h2]
      apply List.ext_getElem?
      intro i
      simp only [List.getElem?_map, Array.getElem?_toList, Array.getElem?_modify, List.getElem?_set, List.length_map, Array.length_toList]
      have hje' := (Array.getElem?_eq_some_iff.1 hje).1
      by_cases hij : j = i
      · subst hij
        simp [hje']
      · simp [hij]

theorem clear_run {k e mt : TypeId} (hm : P.underlying mt = some (.map k e)) (ty : TypeId) {W : World} {mb : Nat} {T : List (α × β)} (h : TabAt kv vv ok W mb T) :
    ∃ W', (Builtin.clear_ #[mt] ty #[.map (some mb)]).run P W = .ok (.tuple #[]) W' ∧ TabAt kv vv ok W' mb ([] : List (α × β)) ∧ Ext [mb] W W' := by
  have hlt := h.lt
  obtain ⟨h0, es, c, h1, h2⟩ := h
  have hobj : (getObj mb).run P W = .ok (.map es c) W := by simp [getObj, Sem.run, h1]
  have hset : ∀ es' c', (setObj mb (.map es' c')).run P W = .ok () { W with heap := W.heap.setIfInBounds mb (.map es' c') } := fun es' c' => by
    simp [setObj, Sem.run, h1]
  refine ⟨{ W with heap := W.heap.setIfInBounds mb (.map #[] c) }, ?_, ⟨by simp, #[], c, by simp [hlt], rfl⟩, rfl, rfl, rfl, by simp, fun k _ hm => by simp only [Array.getElem?_setIfInBounds]; rw [if_neg (by simp at hm; omega)]⟩
  simp [Builtin.clear_, run_underlying hm, hobj, hset]

theorem new_tab {W : World} {mb c : Nat} (h : W.heap[mb]? = some (.map #[] c)) : TabAt kv vv ok W mb ([] : List (α × β)) := ⟨by simp, #[], c, h, rfl⟩
end
end Go.TB

/-
  A region that draws its order of evaluation, walked once, in the text's order, over a world of which only what the earlier operations leave is known.
  No condition beyond what each theorem states. No program in sight: lemmas over any program.
-/
import Derived.Orders
import Derived.OrdersIn
import Derived.Below
import Derived.Tactics
namespace Go.RG
open Go.RowKit

/-- w' goes on from w: nothing of w has turned but what lies in the blocks Ms. -/
structure Ext (Ms : List Nat) (w w' : World) : Prop where
  os : w'.os = w.os
  tape : w'.tape = w.tape
  output : w'.output = w.output
  size : w.heap.size ≤ w'.heap.size
  block : ∀ k, k < w.heap.size → k ∉ Ms → w'.heap[k]? = w.heap[k]?

theorem Ext.refl (Ms : List Nat) (w : World) : Ext Ms w w := ⟨rfl, rfl, rfl, Nat.le_refl _, fun _ _ _ => rfl⟩
theorem Ext.trans {Ms : List Nat} {a b c : World} (h : Ext Ms a b) (k : Ext Ms b c) : Ext Ms a c :=
  ⟨k.os.trans h.os, k.tape.trans h.tape, k.output.trans h.output, Nat.le_trans h.size k.size,
    fun i hi hm => (k.block i (Nat.lt_of_lt_of_le hi h.size) hm).trans (h.block i hi hm)⟩
theorem Ext.more {Ms Ms' : List Nat} {w w' : World} (h : Ext Ms w w') (hs : ∀ x, x ∈ Ms → x ∈ Ms') : Ext Ms' w w' :=
  ⟨h.os, h.tape, h.output, h.size, fun k hk hm => h.block k hk (fun e => hm (hs k e))⟩
theorem Ext.nil {Ms : List Nat} {w w' : World} (h : Ext [] w w') : Ext Ms w w' := h.more (by simp)
theorem Ext.of_below {Ms : List Nat} {w w' : World} (h : Below w.heap.size w w') : Ext Ms w w' :=
  ⟨h.os, h.tape, h.output, h.size, fun k hk _ => h.block k hk⟩
theorem Ext.below {w w' : World} (h : Ext [] w w') : Below w.heap.size w w' :=
  ⟨h.os, h.tape, h.output, h.size, fun k hk => h.block k hk (by simp)⟩
theorem Ext.drew {Ms : List Nat} {a w : World} (h : Ext Ms a w) : Ext Ms a w.drew := ⟨h.os, h.tape, h.output, h.size, h.block⟩
theorem Ext.cell {Ms : List Nat} {w w' : World} (h : Ext Ms w w') (b o : Nat) (hb : b < w.heap.size) (hm : b ∉ Ms) : w'.cell? ⟨b, o, none⟩ = w.cell? ⟨b, o, none⟩ :=
  World.cell?_of_block (w := w) (h.block b hb hm)

/-- What one operation does, said of the value that it leaves and of the world behind it. -/
def Does (P : Program) (o : Oper) (ρ : Operand → Value) (W : World) (R : Value → World → Prop) : Prop :=
  match (execOp ρ o).run P W with
  | .ok (.value v) w' => R v w'
  | .ok .skip w' => R undef w'
  | .ok (.enter f args) w' => Calls P f args w' (fun e w'' => ∃ v, e = .returned v ∧ R v w'')
  | _ => False

/-- What is said of an operation whose value is not known outright: of the value alone, and of the value in a world; both may look at the operands' values. -/
structure Spec where
  pure : List Value → Value → Prop
  world : List Value → Value → World → Prop

abbrev Facts := List (Nat × (World → Prop))

def opv (o : Oper) (a : Act) : List Value := o.op.operands.toList.map a.eval

/-- Operation j comes ahead of operation i in whatever order. -/
def isAnc (ops : Array Oper) (j i : Nat) : Bool := ((Region.before ops).getD i 0).testBit j

/-- Two ways in which a world may go on: R0: what every operation but one does; R1: what that one does. -/
structure Rels (R0 R1 : World → World → Prop) : Prop where
  refl : ∀ w, R0 w w
  trans0 : ∀ {a b c}, R0 a b → R0 b c → R0 a c
  trans1 : ∀ {a b c}, R1 a b → R1 b c → R1 a c
  sub : ∀ {a b}, R0 a b → R1 a b

def relOf (R0 R1 : World → World → Prop) (m : Option Nat) (i : Nat) : World → World → Prop := if m = some i then R1 else R0
def relNot (R0 R1 : World → World → Prop) (m : Option Nat) (i : Nat) : World → World → Prop := if m = some i then R0 else R1

theorem Rels.notRefl {R0 R1 : World → World → Prop} (h : Rels R0 R1) {m : Option Nat} (i : Nat) (w : World) : relNot R0 R1 m i w w := by
  unfold relNot
  split
  · exact h.refl w
  · exact h.sub (h.refl w)

theorem rels_ext (Ms : List Nat) : Rels (Ext []) (Ext Ms) := ⟨Ext.refl [], Ext.trans, Ext.trans, Ext.nil⟩

/-- What is said of an operation's world until the one operation m: it stays through R0 alone, and is handed to m alone. -/
abbrev Pres := Nat → List Value → Value → World → Prop
def noPre : Pres := fun _ _ _ _ => True

def Rely (ops : Array Oper) (R0 R1 : World → World → Prop) (m : Option Nat) (W0 : World) (F G : Facts) (i : Nat) (W : World) : Prop :=
  relNot R0 R1 m i W0 W ∧ (∀ f ∈ F, isAnc ops f.1 i = true → f.2 W) ∧ (m = some i → ∀ g ∈ G, isAnc ops g.1 i = true → g.2 W)

/-- The walk in the text's order. -/
def Tree (Ps : Pres) (P : Program) (ops : Array Oper) (R0 R1 : World → World → Prop) (m : Option Nat) (Ss : List (Nat × Spec)) (Fin : Act → World → Prop) (W0 : World) :
    List Oper → Nat → Act → Facts → Facts → Prop
  | [], _, a, F, _ => ∀ W, R1 W0 W → (∀ f ∈ F, f.2 W) → Fin a W
  | o :: rest, i, a, F, G =>
    match Ss.lookup i with
    | none => ∃ v, ((Region.wanted o (yielded ops a.tmps) = true ∧ ∀ W, Rely ops R0 R1 m W0 F G i W → (execOp a.eval o).run P W = .ok (.value v) W) ∨
          (Region.wanted o (yielded ops a.tmps) = false ∧ v = undef)) ∧ Tree Ps P ops R0 R1 m Ss Fin W0 rest (i + 1) (a.put o.dst v) F G
    | some s => Region.wanted o (yielded ops a.tmps) = true ∧ (∃ v, s.pure (opv o a) v) ∧
        (∀ W, Rely ops R0 R1 m W0 F G i W → Does P o a.eval W (fun v W' => s.pure (opv o a) v ∧ s.world (opv o a) v W' ∧ relOf R0 R1 m i W W' ∧ Ps i (opv o a) v W')) ∧
        ((∀ v W W', s.world (opv o a) v W → relNot R0 R1 m i W W' → s.world (opv o a) v W') ∧ (∀ v W W', Ps i (opv o a) v W → R0 W W' → Ps i (opv o a) v W')) ∧
        ∀ v, s.pure (opv o a) v → Tree Ps P ops R0 R1 m Ss Fin W0 rest (i + 1) (a.put o.dst v) ((i, s.world (opv o a) v) :: F) ((i, Ps i (opv o a) v) :: G)

/-- Which operations have come up: the first t of n. -/
def firsts (n t : Nat) : Array Bool := ((List.range n).map (fun i => decide (i < t))).toArray

/-- The looks at the text, by the kernel. -/
def chk (ops : Array Oper) (k : Nat) : Bool :=
  let n := ops.size
  let at_ (i : Nat) : Oper := ops.getD i default
  decide (k ≤ n) &&
  (List.range n).all (fun i => (at_ i).after.toList.all fun e => !Region.binds .any e || decide (e.on < i)) &&
  (List.range k).all (fun i => (List.range k).all fun j => i == j || (at_ i).dst.isNone || (at_ i).dst != (at_ j).dst) &&
  (List.range k).all (fun i => ((at_ i).looksAt ops).all fun t => (List.range k).all fun j =>
    (at_ j).dst != some t || i == j || (decide (j < i) && isAnc ops j i) || (decide (i < j) && isAnc ops i j)) &&
  (List.range n).all (fun i => decide (i < k) || (List.range k).all fun j => isAnc ops j i) &&
  (List.range n).all (fun i => match (at_ i).op with | .select .. => false | _ => true) &&
  (List.range (n - k)).all (fun t => Region.ready .any ops (firsts n (k + t)) == [k + t]) &&
  Region.ready .any ops (firsts n n) == []

/-! ### The order: what comes ahead of what -/

/-- D is closed downwards. -/
def Down (ops : Array Oper) (D : Nat → Prop) : Prop := ∀ i o, ops[i]? = some o → D i → ∀ e ∈ o.after, Region.binds .any e = true → D e.on

theorem mask_fold (acc : Array Nat) (j : Nat) (l : List Edge) (s : Nat)
    (h : (l.foldl (fun s e => if Region.binds .any e then s ||| 2 ^ e.on ||| acc.getD e.on 0 else s) s).testBit j = true) :
    s.testBit j = true ∨ ∃ e ∈ l, Region.binds .any e = true ∧ (j = e.on ∨ (acc.getD e.on 0).testBit j = true) := by
  induction l generalizing s with
  | nil => exact .inl h
  | cons e l ih =>
    simp only [List.foldl_cons] at h
    rcases ih _ h with h1 | ⟨e', he', hb, hj⟩
    · by_cases hb : Region.binds .any e = true
      · rw [if_pos hb] at h1
        simp only [Nat.testBit_or, Bool.or_eq_true, Nat.testBit_two_pow, decide_eq_true_eq] at h1
        rcases h1 with (h1 | h1) | h1
        · exact .inl h1
        · exact .inr ⟨e, by simp, hb, .inl h1.symm⟩
        · exact .inr ⟨e, by simp, hb, .inr h1⟩
      · rw [if_neg hb] at h1
        exact .inl h1
    · exact .inr ⟨e', by simp [he'], hb, hj⟩

/-- The masks, one after the other. -/
def masks (l : List Oper) : Array Nat :=
  l.foldl (fun acc o => acc.push (o.after.foldl (fun s e => if Region.binds .any e then s ||| 2 ^ e.on ||| acc.getD e.on 0 else s) 0)) #[]

theorem before_eq (ops : Array Oper) : Region.before ops = masks ops.toList := by
  simp only [Region.before, masks, Array.foldl_toList]

theorem masks_snoc (l : List Oper) (o : Oper) : masks (l ++ [o]) = (masks l).push (o.after.foldl (fun s e => if Region.binds .any e then s ||| 2 ^ e.on ||| (masks l).getD e.on 0 else s) 0) := by
  simp [masks, List.foldl_append]

theorem snoc_ind {α : Type} {p : List α → Prop} (h0 : p []) (h1 : ∀ l a, p l → p (l ++ [a])) (l : List α) : p l := by
  rw [← l.reverse_reverse]
  induction l.reverse with
  | nil => exact h0
  | cons a t ih => rw [List.reverse_cons]; exact h1 _ _ ih

theorem masks_size (l : List Oper) : (masks l).size = l.length := by
  induction l using snoc_ind with
  | h0 => rfl
  | h1 l o ih => simp [masks_snoc, ih]

theorem masks_get (l : List Oper) (D : Nat → Prop) (hD : ∀ i o, l[i]? = some o → D i → ∀ e ∈ o.after, Region.binds .any e = true → D e.on) :
    ∀ i j, i < l.length → D i → ((masks l).getD i 0).testBit j = true → D j := by
  induction l using snoc_ind with
  | h0 => intro i j hi; simp at hi
  | h1 l o ih =>
    have ih' := ih (fun i o' hi => hD i o' (by
      have := (List.getElem?_eq_some_iff.1 hi).1
      rw [List.getElem?_append_left this]; exact hi))
    intro i j hi hDi h
    rw [masks_snoc] at h
    by_cases hlt : i < l.length
    · rw [Array.getD_eq_getD_getElem?, Array.getElem?_push, if_neg (by rw [masks_size]; omega), ← Array.getD_eq_getD_getElem?] at h
      exact ih' i j hlt hDi h
    · have hi' : i = l.length := by simp at hi; omega
      subst hi'
      rw [Array.getD_eq_getD_getElem?, Array.getElem?_push, if_pos (by rw [masks_size])] at h
      simp only [Option.getD_some] at h
      rw [← Array.foldl_toList] at h
      rcases mask_fold _ j _ _ h with h1 | ⟨e, he, hb, hj⟩
      · simp at h1
      · have hDe : D e.on := hD l.length o (by simp) hDi e (by simpa using he) hb
        rcases hj with rfl | hj
        · exact hDe
        · by_cases hlt' : e.on < l.length
          · exact ih' e.on j hlt' hDe hj
          · rw [Array.getD_eq_getD_getElem?, Array.getElem?_eq_none (by rw [masks_size]; omega)] at hj
            simp at hj

theorem anc_down {ops : Array Oper} {D : Nat → Prop} (hD : Down ops D) {i j : Nat} (hi : i < ops.size) (hDi : D i) (h : isAnc ops j i = true) : D j := by
  unfold isAnc at h
  rw [before_eq] at h
  exact masks_get ops.toList D (fun i o hi => hD i o (by simpa using hi)) i j (by simpa using hi) hDi h

/-- One that is ready: what comes ahead of it has come. -/
theorem anc_ready {ops : Array Oper} {D : Nat → Prop} (hD : Down ops D) {i j : Nat} {o : Oper} (ho : ops[i]? = some o)
    (hr : ∀ e ∈ o.after, Region.binds .any e = true → D e.on) (h : isAnc ops j i = true) (hij : j ≠ i) : D j := by
  have hD' : Down ops (fun t => D t ∨ t = i) := by
    intro t o' ht hDt e he hb
    rcases hDt with hDt | rfl
    · exact .inl (hD t o' ht hDt e he hb)
    · rw [ho] at ht; cases ht
      exact .inl (hr e he hb)
  exact (anc_down hD' (Array.getElem?_eq_some_iff.1 ho).1 (.inr rfl) h).resolve_right hij

/-! ### Frames -/
section
variable {P : Program} {ops : Array Oper}

def dstOf (ops : Array Oper) (i : Nat) : Option Tmp := (ops[i]?).bind (·.dst)

def putAll (ops : Array Oper) (env : Nat → Value) (a0 : Act) (l : List Nat) : Act := l.foldl (fun a i => a.put (dstOf ops i) (env i)) a0

theorem putAll_snoc (env : Nat → Value) (a0 : Act) (l : List Nat) (i : Nat) : putAll ops env a0 (l ++ [i]) = (putAll ops env a0 l).put (dstOf ops i) (env i) := by
  simp [putAll, List.foldl_append]

theorem put_defers (a : Act) (d : Option Tmp) (v : Value) : (a.put d v).defers = a.defers := by cases d <;> rfl
theorem put_size (a : Act) (d : Option Tmp) (v : Value) : (a.put d v).tmps.size = a.tmps.size := by cases d <;> simp [Act.put]
theorem put_get (a : Act) (d : Option Tmp) (v : Value) (t : Nat) : (a.put d v).tmps[t]? = if d = some t then (if t < a.tmps.size then some v else none) else a.tmps[t]? := by
  cases d with
  | none => simp [Act.put]
  | some d =>
    by_cases h : d = t
    · subst h; simp [Act.put, Array.getElem?_setIfInBounds]
    · have h' : some d ≠ some t := fun e => h (Option.some.inj e)
      rw [if_neg h']
      simp [Act.put, Array.getElem?_setIfInBounds_ne h]

theorem putAll_defers (env : Nat → Value) (a0 : Act) (l : List Nat) : (putAll ops env a0 l).defers = a0.defers := by
  induction l using snoc_ind with
  | h0 => rfl
  | h1 l i ih => rw [putAll_snoc, put_defers, ih]
theorem putAll_size (env : Nat → Value) (a0 : Act) (l : List Nat) : (putAll ops env a0 l).tmps.size = a0.tmps.size := by
  induction l using snoc_ind with
  | h0 => rfl
  | h1 l i ih => rw [putAll_snoc, put_size, ih]

theorem putAll_none (env : Nat → Value) (a0 : Act) (t : Nat) (l : List Nat) (h : ∀ i ∈ l, dstOf ops i ≠ some t) : (putAll ops env a0 l).tmps[t]? = a0.tmps[t]? := by
  induction l using snoc_ind with
  | h0 => rfl
  | h1 l i ih => rw [putAll_snoc, put_get, if_neg (h i (by simp)), ih (fun j hj => h j (by simp [hj]))]

theorem putAll_some (env : Nat → Value) (a0 : Act) (t i : Nat) (l : List Nat) (hi : i ∈ l) (hd : dstOf ops i = some t) (hu : ∀ j ∈ l, dstOf ops j = some t → j = i) :
    (putAll ops env a0 l).tmps[t]? = if t < a0.tmps.size then some (env i) else none := by
  induction l using snoc_ind with
  | h0 => simp at hi
  | h1 l j ih =>
    rw [putAll_snoc, put_get, putAll_size]
    by_cases hj : dstOf ops j = some t
    · rw [if_pos hj, hu j (by simp) hj]
    · rw [if_neg hj]
      refine ih ?_ (fun x hx => hu x (by simp [hx]))
      rcases List.mem_append.1 hi with h | h
      · exact h
      · simp at h; subst h; exact absurd hd hj

theorem agree {env env' : Nat → Value} {a0 : Act} {l l' : List Nat} (t : Nat) (hm : ∀ i, dstOf ops i = some t → (i ∈ l ↔ i ∈ l')) (he : ∀ i ∈ l, dstOf ops i = some t → env i = env' i)
    (hu : ∀ i j, i ∈ l → j ∈ l → dstOf ops i = some t → dstOf ops j = some t → i = j) : (putAll ops env a0 l).tmps[t]? = (putAll ops env' a0 l').tmps[t]? := by
  by_cases h : ∃ i ∈ l, dstOf ops i = some t
  · obtain ⟨i, hi, hd⟩ := h
    rw [putAll_some env a0 t i l hi hd (fun j hj hdj => hu j i hj hi hdj hd), putAll_some env' a0 t i l' ((hm i hd).1 hi) hd (fun j hj hdj => hu j i ((hm j hdj).2 hj) hi hdj hd), he i hi hd]
  · have h1 : ∀ i ∈ l, dstOf ops i ≠ some t := fun i hi hd => h ⟨i, hi, hd⟩
    have h2 : ∀ i ∈ l', dstOf ops i ≠ some t := fun i hi hd => h ⟨i, (hm i hd).2 hi, hd⟩
    rw [putAll_none _ _ _ _ h1, putAll_none _ _ _ _ h2]

theorem putAll_congr {env env' : Nat → Value} {a0 : Act} {l : List Nat} (he : ∀ i ∈ l, env i = env' i) : putAll ops env a0 l = putAll ops env' a0 l := by
  induction l using snoc_ind with
  | h0 => rfl
  | h1 l i ih => rw [putAll_snoc, putAll_snoc, ih (fun j hj => he j (by simp [hj])), he i (by simp)]

theorem act_ext {a b : Act} (hd : a.defers = b.defers) (ht : ∀ t : Nat, a.tmps[t]? = b.tmps[t]?) : a = b := by
  obtain ⟨x, d⟩ := a; obtain ⟨y, d'⟩ := b
  simp only at hd ht
  subst hd
  congr 1
  exact Array.ext_getElem? ht

/-- Two frames that agree where the operation looks. -/
def SameLook (ops : Array Oper) (o : Oper) (a b : Act) : Prop := ∀ t ∈ o.looksAt ops, a.tmps[t]? = b.tmps[t]?

theorem SameLook.eval {o : Oper} {a b : Act} (h : SameLook ops o a b) : ∀ x ∈ o.op.operands, a.eval x = b.eval x := by
  intro x hx
  cases x with
  | tmp t =>
    have := h t (List.mem_append_left _ (List.mem_filterMap.2 ⟨.tmp t, by simpa using hx, rfl⟩))
    simp [Act.eval, Array.getD_eq_getD_getElem?, this]
  | _ => rfl
theorem SameLook.exec {o : Oper} {a b : Act} (h : SameLook ops o a b) (hs : ∀ cs b, o.op ≠ .select cs b) : execOp a.eval o = execOp b.eval o := execOp_congr o hs h.eval
theorem SameLook.opv {o : Oper} {a b : Act} (h : SameLook ops o a b) : opv o a = opv o b := List.map_congr_left fun x hx => h.eval x (by simpa using hx)
theorem SameLook.wanted {o : Oper} {a b : Act} (h : SameLook ops o a b) : Region.wanted o (yielded ops a.tmps) = Region.wanted o (yielded ops b.tmps) := by
  unfold Region.wanted
  cases hg : o.guard with
  | none => rfl
  | some gw =>
    obtain ⟨g, want⟩ := gw
    have hy : yielded ops a.tmps g = yielded ops b.tmps g := by
      unfold yielded
      cases ht : (ops[g]?).bind (·.dst) with
      | none => rfl
      | some t =>
        have := h t (List.mem_append_right _ (by simp [hg, ht]))
        simp [this]
    simp only [hy]
theorem SameLook.symm {o : Oper} {a b : Act} (h : SameLook ops o a b) : SameLook ops o b a := fun t ht => (h t ht).symm
end

/-! ### What the kernel's look gives -/
structure Chk (ops : Array Oper) (k : Nat) : Prop where
  kn : k ≤ ops.size
  lt : ∀ (i : Nat) (o : Oper), ops[i]? = some o → ∀ e ∈ o.after, Region.binds .any e = true → e.on < i
  dist : ∀ i j, i < k → j < k → ∀ t, dstOf ops i = some t → dstOf ops j = some t → i = j
  look : ∀ (i : Nat) (o : Oper), i < k → ops[i]? = some o → ∀ t ∈ o.looksAt ops, ∀ j, j < k → dstOf ops j = some t → i ≠ j → (j < i ∧ isAnc ops j i = true) ∨ (i < j ∧ isAnc ops i j = true)
  tail : ∀ i, k ≤ i → i < ops.size → ∀ j, j < k → isAnc ops j i = true
  sel : ∀ (i : Nat) (o : Oper), ops[i]? = some o → ∀ cs b, o.op ≠ .select cs b
  rdy : ∀ t, k ≤ t → t < ops.size → Region.ready .any ops (firsts ops.size t) = [t]
  fin : Region.ready .any ops (firsts ops.size ops.size) = []

theorem getD_of {ops : Array Oper} {i : Nat} {o : Oper} (h : ops[i]? = some o) : ops.getD i default = o := by
  rw [Array.getD_eq_getD_getElem?, h]; rfl
theorem dstOf_of {ops : Array Oper} {i : Nat} {o : Oper} (h : ops[i]? = some o) : dstOf ops i = o.dst := by simp [dstOf, h]

theorem chk_spec {ops : Array Oper} {k : Nat} (h : chk ops k = true) : Chk ops k := by
  simp only [chk, Bool.and_eq_true, decide_eq_true_eq, List.all_eq_true, List.mem_range, Bool.or_eq_true, beq_iff_eq, bne_iff_ne, ne_eq, Bool.not_eq_true'] at h
  obtain ⟨⟨⟨⟨⟨⟨⟨h1, h2⟩, h3⟩, h4⟩, h5⟩, h6⟩, h7⟩, h8⟩ := h
  have hlt : ∀ {i : Nat} {o : Oper}, ops[i]? = some o → i < ops.size := fun h => (Array.getElem?_eq_some_iff.1 h).1
  have hget : ∀ {i : Nat}, i < ops.size → ops[i]? = some (ops.getD i default) := fun {i} hi => by
    rw [Array.getElem?_eq_getElem hi, Array.getD_eq_getD_getElem?, Array.getElem?_eq_getElem hi]; rfl
  refine ⟨h1, ?_, ?_, ?_, ?_, ?_, ?_, h8⟩
  · intro i o ho e he hb
    have := h2 i (hlt ho) e (by rw [getD_of ho]; simpa using he)
    rcases this with h | h
    · rw [hb] at h; cases h
    · exact h
  · intro i j hi hj t hdi hdj
    have := h3 i hi j hj
    have ei := hget (Nat.lt_of_lt_of_le hi h1)
    have ej := hget (Nat.lt_of_lt_of_le hj h1)
    rw [dstOf_of ei] at hdi
    rw [dstOf_of ej] at hdj
    rcases this with (h | h) | h
    · exact h
    · rw [hdi] at h; cases h
    · rw [hdi, hdj] at h; exact absurd rfl h
  · intro i o hi ho t ht j hj hdj hij
    have := h4 i hi t (by rw [getD_of ho]; exact ht) j hj
    rw [dstOf_of (hget (Nat.lt_of_lt_of_le hj h1))] at hdj
    rcases this with ((h | h) | h) | h
    · exact absurd hdj h
    · exact absurd h hij
    · exact .inl h
    · exact .inr h
  · intro i hk hi j hj
    rcases h5 i hi with h | h
    · omega
    · exact h j hj
  · intro i o ho cs b e
    have := h6 i (hlt ho)
    rw [getD_of ho, e] at this
    cases this
  · intro t hk ht
    have := h7 (t - k) (by omega)
    rw [show k + (t - k) = t from by omega] at this
    exact this

/-! ### The walk in whatever order -/
section
variable {Ps : Pres} {P : Program} {ops : Array Oper} {R0 R1 : World → World → Prop} {m : Option Nat} {Ss : List (Nat × Spec)} {W0 : World} {a0 : Act}

abbrev pf (ops : Array Oper) (a0 : Act) (env : Nat → Value) (i : Nat) : Act := putAll ops env a0 (List.range i)

theorem pf_succ (env : Nat → Value) (i : Nat) : pf ops a0 env (i + 1) = (pf ops a0 env i).put (dstOf ops i) (env i) := by
  unfold pf; rw [List.range_succ, putAll_snoc]

theorem pf_congr {env env' : Nat → Value} {i : Nat} (h : ∀ j, j < i → env j = env' j) : pf ops a0 env i = pf ops a0 env' i :=
  putAll_congr fun j hj => h j (by simpa using hj)

/-- What operation j has left, said at the world W. -/
def Left (ops : Array Oper) (a0 : Act) (env : Nat → Value) (j : Nat) (s : Spec) (W : World) : Prop := s.world (opv (ops.getD j default) (pf ops a0 env j)) (env j) W

/-- The same of what holds until m. -/
def LeftP (Ps : Pres) (ops : Array Oper) (a0 : Act) (env : Nat → Value) (j : Nat) (W : World) : Prop := Ps j (opv (ops.getD j default) (pf ops a0 env j)) (env j) W

def RelyAt (Ps : Pres) (ops : Array Oper) (R0 R1 : World → World → Prop) (m : Option Nat) (Ss : List (Nat × Spec)) (W0 : World) (a0 : Act) (env : Nat → Value) (i : Nat) (W : World) : Prop :=
  relNot R0 R1 m i W0 W ∧ (∀ j s, Ss.lookup j = some s → j < i → isAnc ops j i = true → Left ops a0 env j s W) ∧
    (m = some i → ∀ j s, Ss.lookup j = some s → j < i → isAnc ops j i = true → LeftP Ps ops a0 env j W)

def Node (Ps : Pres) (P : Program) (ops : Array Oper) (R0 R1 : World → World → Prop) (m : Option Nat) (Ss : List (Nat × Spec)) (W0 : World) (a0 : Act) (env : Nat → Value) (i : Nat) (o : Oper) : Prop :=
  match Ss.lookup i with
  | none => (Region.wanted o (yielded ops (pf ops a0 env i).tmps) = true ∧ ∀ W, RelyAt Ps ops R0 R1 m Ss W0 a0 env i W → (execOp (pf ops a0 env i).eval o).run P W = .ok (.value (env i)) W) ∨
      (Region.wanted o (yielded ops (pf ops a0 env i).tmps) = false ∧ env i = undef)
  | some s => Region.wanted o (yielded ops (pf ops a0 env i).tmps) = true ∧ s.pure (opv o (pf ops a0 env i)) (env i) ∧
      (∀ W, RelyAt Ps ops R0 R1 m Ss W0 a0 env i W → Does P o (pf ops a0 env i).eval W (fun v W' => s.pure (opv o (pf ops a0 env i)) v ∧ s.world (opv o (pf ops a0 env i)) v W' ∧ relOf R0 R1 m i W W' ∧ Ps i (opv o (pf ops a0 env i)) v W')) ∧
      (∀ v W W', s.world (opv o (pf ops a0 env i)) v W → relNot R0 R1 m i W W' → s.world (opv o (pf ops a0 env i)) v W') ∧
      (∀ v W W', Ps i (opv o (pf ops a0 env i)) v W → R0 W W' → Ps i (opv o (pf ops a0 env i)) v W')

theorem Left_congr {env env' : Nat → Value} {j : Nat} {s : Spec} {W : World} (h : ∀ i, i ≤ j → env i = env' i) (hl : Left ops a0 env j s W) : Left ops a0 env' j s W := by
  unfold Left at *
  rw [pf_congr (fun i hi => (h i (by omega)).symm), ← h j (Nat.le_refl _)]
  exact hl

theorem LeftP_congr {env env' : Nat → Value} {j : Nat} {W : World} (h : ∀ i, i ≤ j → env i = env' i) (hl : LeftP Ps ops a0 env j W) : LeftP Ps ops a0 env' j W := by
  unfold LeftP at *
  rw [pf_congr (fun i hi => (h i (by omega)).symm), ← h j (Nat.le_refl _)]
  exact hl

theorem RelyAt_congr {env env' : Nat → Value} {i : Nat} {W : World} (h : ∀ j, j < i → env j = env' j) (hr : RelyAt Ps ops R0 R1 m Ss W0 a0 env i W) : RelyAt Ps ops R0 R1 m Ss W0 a0 env' i W :=
  ⟨hr.1, fun j s hs hj ha => Left_congr (fun t ht => h t (by omega)) (hr.2.1 j s hs hj ha), fun hm j s hs hj ha => LeftP_congr (fun t ht => h t (by omega)) (hr.2.2 hm j s hs hj ha)⟩

theorem Node_congr {env env' : Nat → Value} {i : Nat} {o : Oper} (h : ∀ j, j ≤ i → env j = env' j) (hn : Node Ps P ops R0 R1 m Ss W0 a0 env i o) : Node Ps P ops R0 R1 m Ss W0 a0 env' i o := by
  have hp : pf ops a0 env i = pf ops a0 env' i := pf_congr fun j hj => h j (by omega)
  have hr : ∀ W, RelyAt Ps ops R0 R1 m Ss W0 a0 env' i W → RelyAt Ps ops R0 R1 m Ss W0 a0 env i W := fun W => RelyAt_congr fun j hj => (h j (by omega)).symm
  unfold Node at *
  rw [← hp, ← h i (Nat.le_refl _)]
  cases hs : Ss.lookup i with
  | none =>
    simp only [hs] at hn ⊢
    exact hn.imp (fun x => ⟨x.1, fun W hW => x.2 W (hr W hW)⟩) id
  | some s =>
    simp only [hs] at hn ⊢
    exact ⟨hn.1, hn.2.1, fun W hW => hn.2.2.1 W (hr W hW), hn.2.2.2⟩

/-- The facts that the text's walk has gathered. -/
def Fs (ops : Array Oper) (Ss : List (Nat × Spec)) (a0 : Act) (env : Nat → Value) : Nat → Facts
  | 0 => []
  | t + 1 => match Ss.lookup t with
    | none => Fs ops Ss a0 env t
    | some s => (t, s.world (opv (ops.getD t default) (pf ops a0 env t)) (env t)) :: Fs ops Ss a0 env t

theorem mem_Fs {env : Nat → Value} {t : Nat} {f : Nat × (World → Prop)} : f ∈ Fs ops Ss a0 env t ↔ ∃ j s, j < t ∧ Ss.lookup j = some s ∧ f = (j, Left ops a0 env j s) := by
  induction t with
  | zero => simp [Fs]
  | succ t ih =>
    unfold Fs
    cases hs : Ss.lookup t with
    | none =>
      simp only [ih]
      constructor
      · rintro ⟨j, s, hj, h1, h2⟩; exact ⟨j, s, by omega, h1, h2⟩
      · rintro ⟨j, s, hj, h1, h2⟩
        have : j ≠ t := fun e => by subst e; rw [hs] at h1; cases h1
        exact ⟨j, s, by omega, h1, h2⟩
    | some s0 =>
      simp only [List.mem_cons, ih]
      constructor
      · rintro (rfl | ⟨j, s, hj, h1, h2⟩)
        · exact ⟨t, s0, by omega, hs, rfl⟩
        · exact ⟨j, s, by omega, h1, h2⟩
      · rintro ⟨j, s, hj, h1, h2⟩
        by_cases e : j = t
        · subst e; rw [hs] at h1; cases h1; exact .inl h2
        · exact .inr ⟨j, s, by omega, h1, h2⟩

theorem Fs_congr {env env' : Nat → Value} {t : Nat} (h : ∀ j, j < t → env j = env' j) : Fs ops Ss a0 env t = Fs ops Ss a0 env' t := by
  induction t with
  | zero => rfl
  | succ t ih =>
    unfold Fs
    rw [ih (fun j hj => h j (by omega)), pf_congr (env := env) (env' := env') (fun j hj => h j (by omega)), h t (by omega)]

/-- The same of what holds until m. -/
def Gs (Ps : Pres) (ops : Array Oper) (Ss : List (Nat × Spec)) (a0 : Act) (env : Nat → Value) : Nat → Facts
  | 0 => []
  | t + 1 => match Ss.lookup t with
    | none => Gs Ps ops Ss a0 env t
    | some _ => (t, Ps t (opv (ops.getD t default) (pf ops a0 env t)) (env t)) :: Gs Ps ops Ss a0 env t

theorem mem_Gs {env : Nat → Value} {t : Nat} {f : Nat × (World → Prop)} : f ∈ Gs Ps ops Ss a0 env t → ∃ j s, j < t ∧ Ss.lookup j = some s ∧ f = (j, LeftP Ps ops a0 env j) := by
  induction t with
  | zero => simp [Gs]
  | succ t ih =>
    unfold Gs
    cases hs : Ss.lookup t with
    | none => exact fun h => by obtain ⟨j, s, hj, h1, h2⟩ := ih h; exact ⟨j, s, by omega, h1, h2⟩
    | some s0 =>
      simp only [List.mem_cons]
      rintro (rfl | h)
      · exact ⟨t, s0, by omega, hs, rfl⟩
      · obtain ⟨j, s, hj, h1, h2⟩ := ih h; exact ⟨j, s, by omega, h1, h2⟩

theorem Gs_congr {env env' : Nat → Value} {t : Nat} (h : ∀ j, j < t → env j = env' j) : Gs Ps ops Ss a0 env t = Gs Ps ops Ss a0 env' t := by
  induction t with
  | zero => rfl
  | succ t ih =>
    unfold Gs
    rw [ih (fun j hj => h j (by omega)), pf_congr (env := env) (env' := env') (fun j hj => h j (by omega)), h t (by omega)]

theorem rely_of {env : Nat → Value} {i : Nat} {W : World} (h : RelyAt Ps ops R0 R1 m Ss W0 a0 env i W) : Rely ops R0 R1 m W0 (Fs ops Ss a0 env i) (Gs Ps ops Ss a0 env i) i W :=
  ⟨h.1, fun f hf ha => by
    obtain ⟨j, s, hj, hs, rfl⟩ := mem_Fs.1 hf
    exact h.2.1 j s hs hj ha, fun hm f hf ha => by
    obtain ⟨j, s, hj, hs, rfl⟩ := mem_Gs hf
    exact h.2.2 hm j s hs hj ha⟩
/-- What is on record of one that has come. -/
def Rec (Ps : Pres) (P : Program) (ops : Array Oper) (R0 R1 : World → World → Prop) (m : Option Nat) (Ss : List (Nat × Spec)) (W0 : World) (a0 : Act) (env : Nat → Value) (i : Nat) (o : Oper) : Prop :=
  match Ss.lookup i with
  | none => (Region.wanted o (yielded ops (pf ops a0 env i).tmps) = true ∧ ∃ W, RelyAt Ps ops R0 R1 m Ss W0 a0 env i W ∧ (execOp (pf ops a0 env i).eval o).run P W = .ok (.value (env i)) W) ∨
      (Region.wanted o (yielded ops (pf ops a0 env i).tmps) = false ∧ env i = undef)
  | some s => s.pure (opv o (pf ops a0 env i)) (env i)

variable {k : Nat} (hc : Chk ops k)
include hc

/-- Two prefixes over two environments that agree on what comes ahead look alike to operation i. -/
theorem look_pf {env env' : Nat → Value} {i : Nat} {o : Oper} (hi : i < k) (ho : ops[i]? = some o) (h : ∀ j, j < i → isAnc ops j i = true → env j = env' j) :
    SameLook ops o (pf ops a0 env i) (pf ops a0 env' i) := by
  intro t ht
  refine agree t (fun _ _ => Iff.rfl) ?_ ?_
  · intro j hj hd
    have hj' : j < i := by simpa using hj
    rcases hc.look i o hi ho t ht j (by omega) hd (by omega) with h1 | h1
    · exact h j hj' h1.2
    · omega
  · intro x y hx hy hdx hdy
    have hx' : x < i := by simpa using hx
    have hy' : y < i := by simpa using hy
    exact hc.dist x y (by omega) (by omega) t hdx hdy

theorem opv_pf {env env' : Nat → Value} {i : Nat} (hi : i < k) (h : ∀ j, j < i → isAnc ops j i = true → env j = env' j) :
    opv (ops.getD i default) (pf ops a0 env i) = opv (ops.getD i default) (pf ops a0 env' i) := by
  have hlt : i < ops.size := Nat.lt_of_lt_of_le hi hc.kn
  have ho : ops[i]? = some (ops.getD i default) := by
    rw [Array.getElem?_eq_getElem hlt, Array.getD_eq_getD_getElem?, Array.getElem?_eq_getElem hlt]; rfl
  exact (look_pf hc hi ho h).opv

theorem Left_on {env env' : Nat → Value} {l : List Nat} (hl : ∀ i ∈ l, i < k) (hd : Down ops (· ∈ l)) (he : ∀ i ∈ l, env i = env' i) {j : Nat} (hj : j ∈ l) {s : Spec} {W : World}
    (h : Left ops a0 env j s W) : Left ops a0 env' j s W := by
  unfold Left at *
  rw [← opv_pf hc (hl j hj) (fun x _ hx => he x (anc_down hd (Nat.lt_of_lt_of_le (hl j hj) hc.kn) hj hx)), ← he j hj]
  exact h

theorem LeftP_on {env env' : Nat → Value} {l : List Nat} (hl : ∀ i ∈ l, i < k) (hd : Down ops (· ∈ l)) (he : ∀ i ∈ l, env i = env' i) {j : Nat} (hj : j ∈ l) {W : World}
    (h : LeftP Ps ops a0 env j W) : LeftP Ps ops a0 env' j W := by
  unfold LeftP at *
  rw [← opv_pf hc (hl j hj) (fun x _ hx => he x (anc_down hd (Nat.lt_of_lt_of_le (hl j hj) hc.kn) hj hx)), ← he j hj]
  exact h

theorem RelyAt_on {env env' : Nat → Value} {l : List Nat} (hl : ∀ i ∈ l, i < k) (hd : Down ops (· ∈ l)) (he : ∀ i ∈ l, env i = env' i) {i : Nat} (ha : ∀ j, j < i → isAnc ops j i = true → j ∈ l) {W : World}
    (h : RelyAt Ps ops R0 R1 m Ss W0 a0 env i W) : RelyAt Ps ops R0 R1 m Ss W0 a0 env' i W :=
  ⟨h.1, fun j s hs hj hji => Left_on hc hl hd he (ha j hj hji) (h.2.1 j s hs hj hji), fun hm j s hs hj hji => LeftP_on hc hl hd he (ha j hj hji) (h.2.2 hm j s hs hj hji)⟩

theorem Rec_on {env env' : Nat → Value} {l : List Nat} (hl : ∀ i ∈ l, i < k) (hd : Down ops (· ∈ l)) (he : ∀ i ∈ l, env i = env' i) {i : Nat} {o : Oper} (hi : i ∈ l) (ho : ops[i]? = some o)
    (h : Rec Ps P ops R0 R1 m Ss W0 a0 env i o) : Rec Ps P ops R0 R1 m Ss W0 a0 env' i o := by
  have hik : i < k := hl i hi
  have hanc : ∀ j, isAnc ops j i = true → j ∈ l := fun j hj => anc_down hd (Nat.lt_of_lt_of_le hik hc.kn) hi hj
  have hL : SameLook ops o (pf ops a0 env i) (pf ops a0 env' i) := look_pf hc hik ho (fun j _ hj => he j (hanc j hj))
  unfold Rec at *
  rw [← hL.wanted, ← hL.opv, ← he i hi, ← hL.exec (hc.sel i o ho)]
  cases hs : Ss.lookup i with
  | none =>
    simp only [hs] at h ⊢
    exact h.imp (fun x => ⟨x.1, by obtain ⟨W, hW, hr⟩ := x.2; exact ⟨W, RelyAt_on hc hl hd he (fun j _ => hanc j) hW, hr⟩⟩) id
  | some s =>
    simp only [hs] at h ⊢
    exact h

/-- **THE TEXT's WALK, AT AN ENVIRONMENT THAT AGREES WITH WHAT HAS COME.** -/
theorem along {Fin : Act → World → Prop} {env : Nat → Value} {l : List Nat} (hl : ∀ i ∈ l, i < k) (hd : Down ops (· ∈ l))
    (hrec : ∀ i ∈ l, ∀ o, ops[i]? = some o → Rec Ps P ops R0 R1 m Ss W0 a0 env i o)
    (htree : Tree Ps P ops R0 R1 m Ss Fin W0 (ops.toList.take k) 0 a0 [] []) :
    ∃ env', (∀ i ∈ l, env' i = env i) ∧ (∀ i o, i < k → ops[i]? = some o → Node Ps P ops R0 R1 m Ss W0 a0 env' i o) ∧
      (∀ W, R1 W0 W → (∀ j s, Ss.lookup j = some s → j < k → Left ops a0 env' j s W) → Fin (pf ops a0 env' k) W) := by
  have hlen : (ops.toList.take k).length = k := by have := hc.kn; simp [List.length_take]; omega
  have go : ∀ t, t ≤ k → ∃ env', (∀ i ∈ l, env' i = env i) ∧ (∀ i o, i < t → ops[i]? = some o → Node Ps P ops R0 R1 m Ss W0 a0 env' i o) ∧
      Tree Ps P ops R0 R1 m Ss Fin W0 ((ops.toList.take k).drop t) t (pf ops a0 env' t) (Fs ops Ss a0 env' t) (Gs Ps ops Ss a0 env' t) := by
    intro t
    induction t with
    | zero => exact fun _ => ⟨env, fun _ _ => rfl, fun i o hi => by omega, by simpa [Fs, Gs, pf, putAll] using htree⟩
    | succ t ih =>
      intro ht
      obtain ⟨env', h1, h2, h3⟩ := ih (by omega)
      have htk : t < k := by omega
      have hlt : t < ops.size := Nat.lt_of_lt_of_le htk hc.kn
      obtain ⟨o, ho⟩ : ∃ o, ops[t]? = some o := ⟨_, Array.getElem?_eq_getElem hlt⟩
      have hcons : (ops.toList.take k).drop t = o :: (ops.toList.take k).drop (t + 1) := by
        rw [List.drop_eq_getElem_cons (by omega)]
        congr 1
        have : (ops.toList.take k)[t]? = some o := by rw [List.getElem?_take, if_pos htk]; simpa using ho
        rw [List.getElem?_eq_getElem (by omega)] at this
        exact Option.some.inj this
      rw [hcons] at h3
      unfold Tree at h3
      have hdst : dstOf ops t = o.dst := dstOf_of ho
      -- in both cases: one value v, at which the environment is turned
      have step : ∀ v, (t ∈ l → v = env t) → (∀ e : Nat → Value, (∀ j, j < t → e j = env' j) → e t = v → Node Ps P ops R0 R1 m Ss W0 a0 e t o) →
          (∀ e : Nat → Value, (∀ j, j < t → e j = env' j) → e t = v → Tree Ps P ops R0 R1 m Ss Fin W0 ((ops.toList.take k).drop (t + 1)) (t + 1) (pf ops a0 e (t + 1)) (Fs ops Ss a0 e (t + 1)) (Gs Ps ops Ss a0 e (t + 1))) →
          ∃ env'', (∀ i ∈ l, env'' i = env i) ∧ (∀ i o, i < t + 1 → ops[i]? = some o → Node Ps P ops R0 R1 m Ss W0 a0 env'' i o) ∧
            Tree Ps P ops R0 R1 m Ss Fin W0 ((ops.toList.take k).drop (t + 1)) (t + 1) (pf ops a0 env'' (t + 1)) (Fs ops Ss a0 env'' (t + 1)) (Gs Ps ops Ss a0 env'' (t + 1)) := by
        intro v hv hN hT
        refine ⟨fun j => if j = t then v else env' j, ?_, ?_, ?_⟩
        · intro i hi
          by_cases e : i = t
          · subst e; simp only [if_pos]; exact hv hi
          · simp only [if_neg e]; exact h1 i hi
        · intro i o' hi ho'
          by_cases e : i = t
          · subst e; rw [ho] at ho'; cases ho'
            exact hN _ (fun j hj => if_neg (by omega)) (if_pos rfl)
          · exact Node_congr (fun j hj => (if_neg (by omega)).symm) (h2 i o' (by omega) ho')
        · exact hT _ (fun j hj => if_neg (by omega)) (if_pos rfl)
      cases hs : Ss.lookup t with
      | none =>
        simp only [hs] at h3
        obtain ⟨v, hv, hT⟩ := h3
        refine step v ?_ ?_ ?_
        · intro htl
          have hR := hrec t htl o ho
          have hanc : ∀ j, isAnc ops j t = true → j ∈ l := fun j hj => anc_down hd hlt htl hj
          have hL : SameLook ops o (pf ops a0 env t) (pf ops a0 env' t) := look_pf hc htk ho (fun j _ hj => (h1 j (hanc j hj)).symm)
          unfold Rec at hR
          simp only [hs] at hR
          rw [hL.wanted, hL.exec (hc.sel t o ho)] at hR
          rcases hv with ⟨hw, hv⟩ | ⟨hw, hv⟩
          · rcases hR with ⟨_, W, hW, hr⟩ | ⟨hw', _⟩
            · have := hv W (rely_of (RelyAt_on hc hl hd (fun i hi => (h1 i hi).symm) (fun j _ => hanc j) hW))
              rw [hr] at this
              injection this with e1 _
              injection e1 with e2
              exact e2.symm
            · rw [hw] at hw'; cases hw'
          · rcases hR with ⟨hw', _⟩ | ⟨_, hu⟩
            · rw [hw] at hw'; cases hw'
            · rw [hv, hu]
        · intro e he het
          have hp : pf ops a0 e t = pf ops a0 env' t := pf_congr he
          unfold Node
          simp only [hs]
          rw [hp, het]
          exact hv.imp (fun x => ⟨x.1, fun W hW => x.2 W (rely_of (RelyAt_congr he hW))⟩) id
        · intro e he het
          rw [pf_succ, hdst, het, pf_congr he]
          have : Fs ops Ss a0 e (t + 1) = Fs ops Ss a0 env' t := by
            show (match Ss.lookup t with | none => _ | some s => _) = _
            simp only [hs]
            exact Fs_congr he
          rw [this]
          have : Gs Ps ops Ss a0 e (t + 1) = Gs Ps ops Ss a0 env' t := by
            show (match Ss.lookup t with | none => _ | some s => _) = _
            simp only [hs]
            exact Gs_congr he
          rw [this]
          exact hT
      | some s =>
        simp only [hs] at h3
        obtain ⟨hw, ⟨v0, hv0⟩, hdoes, hst, hT⟩ := h3
        have key : ∀ v, s.pure (opv o (pf ops a0 env' t)) v → (t ∈ l → v = env t) → ∃ env'', (∀ i ∈ l, env'' i = env i) ∧ (∀ i o, i < t + 1 → ops[i]? = some o → Node Ps P ops R0 R1 m Ss W0 a0 env'' i o) ∧
            Tree Ps P ops R0 R1 m Ss Fin W0 ((ops.toList.take k).drop (t + 1)) (t + 1) (pf ops a0 env'' (t + 1)) (Fs ops Ss a0 env'' (t + 1)) (Gs Ps ops Ss a0 env'' (t + 1)) := by
          intro v hv hvl
          refine step v hvl ?_ ?_
          · intro e he het
            have hp : pf ops a0 e t = pf ops a0 env' t := pf_congr he
            unfold Node
            simp only [hs]
            rw [hp, het]
            exact ⟨hw, hv, fun W hW => hdoes W (rely_of (RelyAt_congr he hW)), hst⟩
          · intro e he het
            rw [pf_succ, hdst, het, pf_congr he]
            have : Fs ops Ss a0 e (t + 1) = (t, s.world (opv o (pf ops a0 env' t)) v) :: Fs ops Ss a0 env' t := by
              show (match Ss.lookup t with | none => _ | some s => _) = _
              simp only [hs]
              rw [Fs_congr he, pf_congr he, het, getD_of ho]
            rw [this]
            have : Gs Ps ops Ss a0 e (t + 1) = (t, Ps t (opv o (pf ops a0 env' t)) v) :: Gs Ps ops Ss a0 env' t := by
              show (match Ss.lookup t with | none => _ | some s => _) = _
              simp only [hs]
              rw [Gs_congr he, pf_congr he, het, getD_of ho]
            rw [this]
            exact hT v hv
        by_cases htl : t ∈ l
        · have hR := hrec t htl o ho
          have hanc : ∀ j, isAnc ops j t = true → j ∈ l := fun j hj => anc_down hd hlt htl hj
          have hL : SameLook ops o (pf ops a0 env t) (pf ops a0 env' t) := look_pf hc htk ho (fun j _ hj => (h1 j (hanc j hj)).symm)
          unfold Rec at hR
          simp only [hs] at hR
          rw [hL.opv] at hR
          exact key (env t) hR (fun _ => rfl)
        · exact key v0 hv0 (fun h => absurd h htl)
  obtain ⟨env', h1, h2, h3⟩ := go k (Nat.le_refl _)
  refine ⟨env', h1, h2, fun W hW hF => ?_⟩
  rw [List.drop_of_length_le (by omega)] at h3
  unfold Tree at h3
  exact h3 W hW (fun f hf => by
    obtain ⟨j, s, hj, hs, rfl⟩ := mem_Fs.1 hf
    exact hF j s hs hj)
end

/-! ### The machine's walk -/
/-- 'wpAny' over whatever step. -/
def Any (step : Nat → (Act → World → Prop) → Act → World → Prop) (ops : Array Oper) (Qn : Act → World → Prop) : Nat → Array Bool → Act → World → Prop
  | 0, l, a, w => Region.ready .any ops l = [] ∧ Qn a w
  | fuel + 1, l, a, w => (Region.ready .any ops l = [] → Qn a w) ∧ ∀ i ∈ Region.ready .any ops l, step i (Any step ops Qn fuel (l.setIfInBounds i true)) a w

def Seq (step : Nat → (Act → World → Prop) → Act → World → Prop) (Qn : Act → World → Prop) : List Nat → Act → World → Prop
  | [] => Qn
  | i :: r => step i (Seq step Qn r)

def lst (n : Nat) (l : List Nat) : Array Bool := l.foldl (fun a i => a.setIfInBounds i true) (Array.replicate n false)

theorem lst_snoc (n : Nat) (l : List Nat) (i : Nat) : lst n (l ++ [i]) = (lst n l).setIfInBounds i true := by simp [lst, List.foldl_append]
theorem lst_get (n : Nat) (l : List Nat) (i : Nat) : (lst n l)[i]? = if i < n then some (decide (i ∈ l)) else none := by
  have hsize : ∀ l : List Nat, (lst n l).size = n := by
    intro l
    induction l using snoc_ind with
    | h0 => simp [lst]
    | h1 l j ih => rw [lst_snoc]; simp [ih]
  induction l using snoc_ind with
  | h0 => simp [lst, Array.getElem?_replicate]
  | h1 l j ih =>
    rw [lst_snoc, Array.getElem?_setIfInBounds, hsize, ih]
    by_cases e : j = i
    · subst e; by_cases h : j < n <;> simp [h]
    · rw [if_neg e]
      have : i ≠ j := fun h => e h.symm
      simp [this]

theorem firsts_get (n t i : Nat) : (firsts n t)[i]? = if i < n then some (decide (i < t)) else none := by
  unfold firsts
  rw [List.getElem?_toArray, List.getElem?_map]
  by_cases h : i < n
  · rw [List.getElem?_range h, if_pos h]; rfl
  · rw [List.getElem?_eq_none (by simpa using h), if_neg h]; rfl

theorem lst_firsts {n k : Nat} {l : List Nat} (h : ∀ i, i ∈ l ↔ i < k) : lst n l = firsts n k := by
  refine Array.ext_getElem? fun i => ?_
  rw [lst_get, firsts_get]
  simp [h]

theorem mem_ready {ops : Array Oper} {l : List Nat} {i : Nat} : i ∈ Region.ready .any ops (lst ops.size l) ↔
    i < ops.size ∧ i ∉ l ∧ ∀ o, ops[i]? = some o → ∀ e ∈ o.after, Region.binds .any e = true → e.on ∈ l ∧ e.on < ops.size := by
  unfold Region.ready
  simp only [List.mem_filter, List.mem_range, Bool.and_eq_true, Bool.not_eq_true', Array.getD_eq_getD_getElem?, lst_get]
  constructor
  · rintro ⟨hi, h1, h2⟩
    rw [if_pos hi] at h1
    refine ⟨hi, by simpa using h1, fun o ho e he hb => ?_⟩
    rw [ho] at h2
    simp only [Option.map_some, Option.getD_some] at h2
    have := (Array.all_eq_true_iff_forall_mem.1 h2) e he
    rw [hb] at this
    simp only [Bool.not_true, Bool.false_or] at this
    by_cases hlt : e.on < ops.size
    · rw [if_pos hlt] at this
      exact ⟨by simpa using this, hlt⟩
    · rw [if_neg hlt] at this; cases this
  · rintro ⟨hi, h1, h2⟩
    refine ⟨hi, by rw [if_pos hi]; simpa using h1, ?_⟩
    obtain ⟨o, ho⟩ : ∃ o, ops[i]? = some o := ⟨_, Array.getElem?_eq_getElem hi⟩
    rw [ho]
    simp only [Option.map_some, Option.getD_some]
    refine Array.all_eq_true_iff_forall_mem.2 fun e he => ?_
    by_cases hb : Region.binds .any e = true
    · obtain ⟨h3, h4⟩ := h2 o ho e he hb
      rw [if_pos h4]
      simp [h3]
    · simp [hb]

section
variable {step : Nat → (Act → World → Prop) → Act → World → Prop} {ops : Array Oper} {Qn : Act → World → Prop} {k : Nat}

/-- THE TAIL, whose order is forced. -/
theorem any_tail (hc : Chk ops k) (hmono : ∀ i (K K' : Act → World → Prop) a w, (∀ a w, K a w → K' a w) → step i K a w → step i K' a w) :
    ∀ j t a w, t + j = ops.size → k ≤ t → Seq step Qn (List.range' t j) a w → Any step ops Qn j (firsts ops.size t) a w := by
  intro j
  induction j with
  | zero =>
    intro t a w ht _ h
    have : t = ops.size := by omega
    subst this
    exact ⟨hc.fin, h⟩
  | succ j ih =>
    intro t a w ht hk h
    have hr := hc.rdy t hk (by omega)
    refine ⟨fun e => (by rw [hr] at e; cases e), fun i hi => ?_⟩
    rw [hr] at hi
    have : i = t := by simpa using hi
    subst this
    rw [List.range'_succ] at h
    refine hmono _ _ _ _ _ (fun a w hs => ?_) h
    have e : (firsts ops.size i).setIfInBounds i true = firsts ops.size (i + 1) := by
      refine Array.ext_getElem? fun x => ?_
      have hsz : (firsts ops.size i).size = ops.size := by simp [firsts]
      rw [Array.getElem?_setIfInBounds, hsz, firsts_get, firsts_get]
      by_cases e : i = x
      · subst e; simp
      · rw [if_neg e]
        by_cases hx : x < ops.size
        · simp only [hx, if_true, Option.some.injEq, decide_eq_decide]; omega
        · simp [hx]
    rw [e]
    exact ih (i + 1) a w (by omega) (by omega) hs
end

theorem all_in {k : Nat} {l : List Nat} (hn : l.Nodup) (h1 : ∀ i ∈ l, i < k) (h2 : k ≤ l.length) : ∀ i, i < k → i ∈ l := by
  intro i hi
  refine Classical.byContradiction fun h => ?_
  have := List.Nodup.length_le_of_subset (l₁ := i :: l) (l₂ := List.range k) (List.nodup_cons.2 ⟨h, hn⟩) (fun x hx => by
    rcases List.mem_cons.1 hx with rfl | hx
    · simpa using hi
    · simpa using h1 x hx)
  simp at this; omega

theorem len_le {k : Nat} {l : List Nat} (hn : l.Nodup) (h1 : ∀ i ∈ l, i < k) : l.length ≤ k := by
  have := List.Nodup.length_le_of_subset (l₁ := l) (l₂ := List.range k) hn (fun x hx => by simpa using h1 x hx)
  simpa using this

section
variable {step : Nat → (Act → World → Prop) → Act → World → Prop} {P : Program} {ops : Array Oper} {Qn : Act → World → Prop} {Ps : Pres} {R0 R1 : World → World → Prop} {m : Option Nat} {Ss : List (Nat × Spec)} {W0 : World} {a0 : Act} {k : Nat}

theorem any_run (hR : Rels R0 R1) (hc : Chk ops k) (hmono : ∀ i (K K' : Act → World → Prop) a w, (∀ a w, K a w → K' a w) → step i K a w → step i K' a w)
    (hdoes : ∀ (i : Nat) (o : Oper) (K : Act → World → Prop) (a : Act) (W : World) (R : Value → World → Prop), ops[i]? = some o → Region.wanted o (yielded ops a.tmps) = true → Does P o a.eval W R → (∀ v W', R v W' → K (a.put o.dst v) W') → step i K a W)
    (hskip : ∀ (i : Nat) (o : Oper) (K : Act → World → Prop) (a : Act) (W : World), ops[i]? = some o → Region.wanted o (yielded ops a.tmps) = false → K (a.put o.dst undef) W → step i K a W)
    (htree : Tree Ps P ops R0 R1 m Ss (Seq step Qn (List.range' k (ops.size - k))) W0 (ops.toList.take k) 0 a0 [] []) :
    ∀ (fuel : Nat) (l : List Nat) (env : Nat → Value) (W : World), l.length + fuel = ops.size → l.Nodup → (∀ i ∈ l, i < k) → Down ops (· ∈ l) →
      (∀ i ∈ l, ∀ o, ops[i]? = some o → Rec Ps P ops R0 R1 m Ss W0 a0 env i o) → (∀ j s, Ss.lookup j = some s → j ∈ l → Left ops a0 env j s W) →
      R1 W0 W → ((∀ i, m = some i → i ∉ l) → R0 W0 W ∧ ∀ j s, Ss.lookup j = some s → j ∈ l → LeftP Ps ops a0 env j W) → Any step ops Qn fuel (lst ops.size l) (putAll ops env a0 l) W := by
  intro fuel
  induction fuel with
  | zero =>
    intro l env W hlen hnd hl hd hrec hleft hext _
    have hk : k = ops.size := by
      have h1 := len_le hnd hl
      have := hc.kn; omega
    have hall := all_in hnd hl (by omega)
    obtain ⟨env', he, _, hfin⟩ := along (P := P) hc hl hd hrec htree
    have hf := hfin W hext (fun j s hs hj => Left_on hc hl hd (fun i hi => (he i hi).symm) (hall j hj) (hleft j s hs (hall j hj)))
    have ea : putAll ops env a0 l = pf ops a0 env' k := act_ext (by rw [putAll_defers, putAll_defers]) fun t =>
      agree t (fun i hi => ⟨fun h => by simpa using hl i h, fun h => hall i (by simpa using h)⟩) (fun i hi _ => (he i hi).symm) (fun i j hi hj => hc.dist i j (hl i hi) (hl j hj) t)
    rw [lst_firsts (k := k) (fun i => ⟨hl i, hall i⟩), ea, hk]
    rw [show ops.size - k = 0 from by omega] at hf
    rw [hk] at hf
    exact any_tail hc hmono 0 ops.size _ _ (by omega) (by omega) hf
  | succ fuel ih =>
    intro l env W hlen hnd hl hd hrec hleft hext hnil
    obtain ⟨env', he, hnode, hfin⟩ := along (P := P) hc hl hd hrec htree
    have hes : ∀ i ∈ l, env i = env' i := fun i hi => (he i hi).symm
    by_cases hfull : k ≤ l.length
    · have hall := all_in hnd hl hfull
      have hk : l.length = k := by have := len_le hnd hl; omega
      have hf := hfin W hext (fun j s hs hj => Left_on hc hl hd hes (hall j hj) (hleft j s hs (hall j hj)))
      have ea : putAll ops env a0 l = pf ops a0 env' k := act_ext (by rw [putAll_defers, putAll_defers]) fun t =>
        agree t (fun i hi => ⟨fun h => by simpa using hl i h, fun h => hall i (by simpa using h)⟩) (fun i hi _ => hes i hi) (fun i j hi hj => hc.dist i j (hl i hi) (hl j hj) t)
      rw [lst_firsts (k := k) (fun i => ⟨hl i, hall i⟩), ea]
      have e : fuel + 1 = ops.size - k := by omega
      rw [e]
      exact any_tail hc hmono (ops.size - k) k _ _ (by have := hc.kn; omega) (Nat.le_refl _) hf
    · -- one more of the first k comes up
      have hex : ∃ i, i < k ∧ i ∉ l ∧ ∀ j, j < i → j ∈ l := by
        have h0 : ∃ i, i < k ∧ i ∉ l := Classical.byContradiction fun hno => by
          have hall : ∀ i, i < k → i ∈ l := fun i hi => Classical.byContradiction fun h => hno ⟨i, hi, h⟩
          have := List.Nodup.length_le_of_subset (l₁ := List.range k) (l₂ := l) List.nodup_range (fun x hx => hall x (by simpa using hx))
          simp at this; omega
        obtain ⟨i, hi, hil⟩ := h0
        induction i using Nat.strongRecOn with
        | _ i ihh =>
          by_cases hj : ∃ j, j < i ∧ j ∉ l
          · obtain ⟨j, hji, hjl⟩ := hj
            exact ihh j hji (by omega) hjl
          · exact ⟨i, hi, hil, fun j hji => Classical.byContradiction fun h => hj ⟨j, hji, h⟩⟩
      refine ⟨fun e => ?_, fun i hi => ?_⟩
      · obtain ⟨i, hi, hil, hbelow⟩ := hex
        have : i ∈ Region.ready .any ops (lst ops.size l) := mem_ready.2 ⟨Nat.lt_of_lt_of_le hi hc.kn, hil, fun o ho e he hb => by
          have := hc.lt i o ho e he hb
          exact ⟨hbelow _ this, by have := hc.kn; omega⟩⟩
        rw [e] at this; cases this
      · obtain ⟨hin, hil, hready⟩ := mem_ready.1 hi
        obtain ⟨o, ho⟩ : ∃ o, ops[i]? = some o := ⟨_, Array.getElem?_eq_getElem hin⟩
        have hanc : ∀ j, isAnc ops j i = true → j ≠ i → j ∈ l := fun j hj hne => anc_ready hd ho (fun e he hb => (hready o ho e he hb).1) hj hne
        have hik : i < k := Classical.byContradiction fun hge => by
          obtain ⟨j, hj, hjl, _⟩ := hex
          exact hjl (hanc j (hc.tail i (by omega) hin j hj) (by omega))
        have hN := hnode i o hik ho
        -- the frames look alike
        have hL : SameLook ops o (putAll ops env a0 l) (pf ops a0 env' i) := by
          intro t ht
          refine agree t ?_ (fun j hj _ => hes j hj) (fun x y hx hy => hc.dist x y (hl x hx) (hl y hy) t)
          intro j hd'
          by_cases hji : j = i
          · subst hji; simp [hil]
          · constructor
            · intro hjl
              rcases hc.look i o hik ho t ht j (hl j hjl) hd' (fun e => hji e.symm) with h | h
              · simpa using h.1
              · exact absurd (anc_down hd (Nat.lt_of_lt_of_le (hl j hjl) hc.kn) hjl h.2) hil
            · intro hjr
              have hjr' : j < i := by simpa using hjr
              rcases hc.look i o hik ho t ht j (by omega) hd' (fun e => hji e.symm) with h | h
              · exact hanc j h.2 hji
              · omega
        have hrely : RelyAt Ps ops R0 R1 m Ss W0 a0 env' i W := by
          refine ⟨?_, fun j s hs hj ha => Left_on hc hl hd hes (hanc j ha (by omega)) (hleft j s hs (hanc j ha (by omega))), fun hm j s hs hj ha =>
            LeftP_on hc hl hd hes (hanc j ha (by omega)) ((hnil (fun x hx => by rw [hm] at hx; cases hx; exact hil)).2 j s hs (hanc j ha (by omega)))⟩
          unfold relNot
          by_cases hm : m = some i
          · rw [if_pos hm]; exact (hnil (fun x hx => by rw [hm] at hx; cases hx; exact hil)).1
          · rw [if_neg hm]; exact hext
        have ho' : dstOf ops i = o.dst := dstOf_of ho
        have hnd' : (l ++ [i]).Nodup := by
          rw [List.nodup_append]
          refine ⟨hnd, by simp, fun x hx y hy => ?_⟩
          have : y = i := by simpa using hy
          subst this
          exact fun e => hil (e ▸ hx)
        have hl' : ∀ x ∈ l ++ [i], x < k := fun x hx => by
          rcases List.mem_append.1 hx with h | h
          · exact hl x h
          · have : x = i := by simpa using h
            omega
        have hd' : Down ops (· ∈ l ++ [i]) := by
          intro x ox hox hx e he hb
          rcases List.mem_append.1 hx with h | h
          · exact List.mem_append_left _ (hd x ox hox h e he hb)
          · have : x = i := by simpa using h
            subst this
            rw [ho] at hox; cases hox
            exact List.mem_append_left _ (hready o ho e he hb).1
        have hlen' : (l ++ [i]).length + fuel = ops.size := by simp; omega
        -- one more has come, with the value v, in the world W'
        have close : ∀ v W', (∀ e : Nat → Value, (∀ j, j < i → e j = env' j) → e i = v → Rec Ps P ops R0 R1 m Ss W0 a0 e i o) →
            (∀ e : Nat → Value, (∀ j, j ∈ l → e j = env' j) → (∀ j, j < i → e j = env' j) → e i = v → ∀ j s, Ss.lookup j = some s → j ∈ l ++ [i] → Left ops a0 e j s W') → R1 W0 W' → ((∀ x, m = some x → x ∉ l ++ [i]) → R0 W0 W') →
            ((∀ x, m = some x → x ∉ l ++ [i]) → ∀ e : Nat → Value, (∀ j, j ∈ l → e j = env' j) → (∀ j, j < i → e j = env' j) → e i = v → ∀ j s, Ss.lookup j = some s → j ∈ l ++ [i] → LeftP Ps ops a0 e j W') →
            Any step ops Qn fuel ((lst ops.size l).setIfInBounds i true) ((putAll ops env a0 l).put o.dst v) W' := by
          intro v W' hR hLf hE hE0 hLp
          have e1 : putAll ops (fun j => if j = i then v else env' j) a0 (l ++ [i]) = (putAll ops env a0 l).put o.dst v := by
            rw [putAll_snoc, ho', if_pos rfl]
            congr 1
            exact putAll_congr fun j hj => by
              have : j ≠ i := fun e => hil (e ▸ hj)
              rw [if_neg this]; exact he j hj
          rw [← e1, ← lst_snoc]
          have hag : ∀ j ∈ l, env j = (fun j => if j = i then v else env' j) j := fun j hj => by
            have : j ≠ i := fun e => hil (e ▸ hj)
            simp only [if_neg this]; exact hes j hj
          refine ih (l ++ [i]) _ W' hlen' hnd' hl' hd' ?_ ?_ hE (fun hno => ⟨hE0 hno, hLp hno _ (fun j hj => if_neg (fun (e : j = i) => hil (by rw [← e]; exact hj))) (fun j hj => if_neg (by omega)) (if_pos rfl)⟩)
          · intro x hx ox hox
            rcases List.mem_append.1 hx with h | h
            · exact Rec_on hc hl hd hag h hox (hrec x h ox hox)
            · have : x = i := by simpa using h
              subst this
              rw [ho] at hox; cases hox
              exact hR _ (fun j hj => if_neg (by omega)) (if_pos rfl)
          · exact hLf _ (fun j hj => if_neg (fun (e : j = i) => hil (by rw [← e]; exact hj))) (fun j hj => if_neg (by omega)) (if_pos rfl)
        have old : ∀ (e : Nat → Value), (∀ j, j ∈ l → e j = env' j) → ∀ j s W', Ss.lookup j = some s → j ∈ l → relNot R0 R1 m j W W' → Left ops a0 e j s W' := by
          intro e hee j s W' hs hj hE
          have hNj : ∃ oj, ops[j]? = some oj := ⟨_, Array.getElem?_eq_getElem (Nat.lt_of_lt_of_le (hl j hj) hc.kn)⟩
          obtain ⟨oj, hoj⟩ := hNj
          have hst := hnode j oj (hl j hj) hoj
          unfold Node at hst
          simp only [hs] at hst
          have h1 : Left ops a0 env' j s W := Left_on hc hl hd hes hj (hleft j s hs hj)
          refine Left_on hc hl hd (fun x hx => (hee x hx).symm) hj ?_
          unfold Left at h1 ⊢
          rw [getD_of hoj] at h1 ⊢
          exact hst.2.2.2.1 _ W W' h1 hE
        have oldP : (∀ x, m = some x → x ∉ l) → ∀ (e : Nat → Value), (∀ j, j ∈ l → e j = env' j) → ∀ j s W', Ss.lookup j = some s → j ∈ l → R0 W W' → LeftP Ps ops a0 e j W' := by
          intro hno e hee j s W' hs hj hE
          have hNj : ∃ oj, ops[j]? = some oj := ⟨_, Array.getElem?_eq_getElem (Nat.lt_of_lt_of_le (hl j hj) hc.kn)⟩
          obtain ⟨oj, hoj⟩ := hNj
          have hst := hnode j oj (hl j hj) hoj
          unfold Node at hst
          simp only [hs] at hst
          have h1 : LeftP Ps ops a0 env' j W := LeftP_on hc hl hd hes hj ((hnil hno).2 j s hs hj)
          refine LeftP_on hc hl hd (fun x hx => (hee x hx).symm) hj ?_
          unfold LeftP at h1 ⊢
          rw [getD_of hoj] at h1 ⊢
          exact hst.2.2.2.2 _ W W' h1 hE
        unfold Node at hN
        cases hs : Ss.lookup i with
        | none =>
          simp only [hs] at hN
          have same : ∀ v, v = env' i → ((Region.wanted o (yielded ops (pf ops a0 env' i).tmps) = true ∧ ∃ W, RelyAt Ps ops R0 R1 m Ss W0 a0 env' i W ∧ (execOp (pf ops a0 env' i).eval o).run P W = .ok (.value (env' i)) W) ∨
              (Region.wanted o (yielded ops (pf ops a0 env' i).tmps) = false ∧ env' i = undef)) → Any step ops Qn fuel ((lst ops.size l).setIfInBounds i true) ((putAll ops env a0 l).put o.dst v) W := by
            intro v hv hcase
            refine close v W ?_ ?_ hext ?_ ?_
            · intro e hee hei
              have hp : pf ops a0 e i = pf ops a0 env' i := pf_congr hee
              unfold Rec
              simp only [hs]
              rw [hp, hei, hv]
              exact hcase.imp (fun x => ⟨x.1, by obtain ⟨Wx, h1, h2⟩ := x.2; exact ⟨Wx, RelyAt_congr (fun j hj => (hee j hj).symm) h1, h2⟩⟩) id
            · intro e hel hee hei j s hjs hj
              rcases List.mem_append.1 hj with h | h
              · exact old e hel j s W hjs h (hR.notRefl j W)
              · have : j = i := by simpa using h
                subst this
                rw [hs] at hjs; cases hjs
            · intro hno
              exact (hnil (fun x hx hxl => hno x hx (List.mem_append_left _ hxl))).1
            · intro hno e hel hee hei j s hjs hj
              rcases List.mem_append.1 hj with h | h
              · exact oldP (fun x hx hxl => hno x hx (List.mem_append_left _ hxl)) e hel j s W hjs h (hR.refl W)
              · have : j = i := by simpa using h
                subst this
                rw [hs] at hjs; cases hjs
          rcases hN with ⟨hw, hrun⟩ | ⟨hw, hu⟩
          · refine hdoes i o _ _ W (fun v W' => v = env' i ∧ W' = W) ho (by rw [hL.wanted]; exact hw) ?_ ?_
            · unfold Does
              rw [hL.exec (hc.sel i o ho), hrun W hrely]
              exact ⟨rfl, rfl⟩
            · rintro v W' ⟨hv, rfl⟩
              exact same v hv (.inl ⟨hw, _, hrely, hrun _ hrely⟩)
          · refine hskip i o _ _ W ho (by rw [hL.wanted]; exact hw) ?_
            exact same undef hu.symm (.inr ⟨hw, hu⟩)
        | some s =>
          simp only [hs] at hN
          obtain ⟨hw, _, hdo, hst⟩ := hN
          have hdo' := hdo W hrely
          have hdo'' : Does P o (putAll ops env a0 l).eval W (fun v W' => s.pure (opv o (pf ops a0 env' i)) v ∧ s.world (opv o (pf ops a0 env' i)) v W' ∧ relOf R0 R1 m i W W' ∧ Ps i (opv o (pf ops a0 env' i)) v W') := by
            unfold Does at hdo' ⊢
            rw [hL.exec (hc.sel i o ho)]
            exact hdo'
          refine hdoes i o _ _ W _ ho (by rw [hL.wanted]; exact hw) hdo'' ?_
          rintro v W' ⟨hpure, hworld, hE, hpre⟩
          refine close v W' ?_ ?_ ?_ ?_ ?_
          · intro e hee hei
            have hp : pf ops a0 e i = pf ops a0 env' i := pf_congr hee
            unfold Rec
            simp only [hs]
            rw [hp, hei]
            exact hpure
          · intro e hel hee hei j s' hjs hj
            rcases List.mem_append.1 hj with h | h
            · refine old e hel j s' W' hjs h ?_
              have hji : j ≠ i := fun x => hil (x ▸ h)
              unfold relOf at hE
              unfold relNot
              by_cases hm : m = some i
              · rw [if_pos hm] at hE
                rw [if_neg (by rw [hm]; exact fun x => hji (Option.some.inj x).symm)]
                exact hE
              · rw [if_neg hm] at hE
                split
                · exact hE
                · exact hR.sub hE
            · have : j = i := by simpa using h
              subst this
              rw [hs] at hjs; cases hjs
              unfold Left
              rw [getD_of ho, pf_congr hee, hei]
              exact hworld
          · refine hR.trans1 hext ?_
            unfold relOf at hE
            split at hE
            · exact hE
            · exact hR.sub hE
          · intro hno
            have hm : m ≠ some i := fun hm => hno i hm (by simp)
            unfold relOf at hE
            rw [if_neg hm] at hE
            exact hR.trans0 (hnil (fun x hx hxl => hno x hx (List.mem_append_left _ hxl))).1 hE
          · intro hno e hel hee hei j s' hjs hj
            have hm : m ≠ some i := fun hm => hno i hm (by simp)
            unfold relOf at hE
            rw [if_neg hm] at hE
            rcases List.mem_append.1 hj with h | h
            · exact oldP (fun x hx hxl => hno x hx (List.mem_append_left _ hxl)) e hel j s' W' hjs h hE
            · have : j = i := by simpa using h
              subst this
              unfold LeftP
              rw [getD_of ho, pf_congr hee, hei]
              exact hpre
end

theorem any_start {step : Nat → (Act → World → Prop) → Act → World → Prop} {P : Program} {ops : Array Oper} {Qn : Act → World → Prop} {Ps : Pres} {R0 R1 : World → World → Prop} {m : Option Nat} {Ss : List (Nat × Spec)} {W0 W : World} {a0 : Act} {k : Nat}
    (hR : Rels R0 R1) (hc : chk ops k = true) (hmono : ∀ i (K K' : Act → World → Prop) a w, (∀ a w, K a w → K' a w) → step i K a w → step i K' a w)
    (hdoes : ∀ (i : Nat) (o : Oper) (K : Act → World → Prop) (a : Act) (W : World) (R : Value → World → Prop), ops[i]? = some o → Region.wanted o (yielded ops a.tmps) = true → Does P o a.eval W R → (∀ v W', R v W' → K (a.put o.dst v) W') → step i K a W)
    (hskip : ∀ (i : Nat) (o : Oper) (K : Act → World → Prop) (a : Act) (W : World), ops[i]? = some o → Region.wanted o (yielded ops a.tmps) = false → K (a.put o.dst undef) W → step i K a W)
    (hW : R0 W0 W)
    (htree : Tree Ps P ops R0 R1 m Ss (Seq step Qn (List.range' k (ops.size - k))) W0 (ops.toList.take k) 0 a0 [] []) :
    Any step ops Qn ops.size (Array.replicate ops.size false) a0 W :=
  any_run hR (chk_spec hc) hmono hdoes hskip htree ops.size [] (fun _ => undef) W (by simp) List.nodup_nil (by simp) (fun i o _ h => by cases h) (by simp) (by simp) (hR.sub hW) (fun _ => ⟨hW, by simp⟩)

/-! ### At the machine's own steps -/
theorem any_eq {P : Program} {ops : Array Oper} {Q : Exit → Act → World → Prop} : ∀ (fuel : Nat) (l : Array Bool) (a : Act) (w : World), Any (wpOp P ops Q) ops (Q .normal) fuel l a w → wpAny P .any ops Q fuel l a w := by
  intro fuel
  induction fuel with
  | zero => exact fun l a w h => h
  | succ fuel ih => exact fun l a w h => ⟨h.1, fun i hi => wpOp_mono (fun a w => ih _ a w) (h.2 i hi)⟩

theorem seq_eq {P : Program} {ops : Array Oper} {Q : Exit → Act → World → Prop} (l : List Nat) : Seq (wpOp P ops Q) (Q .normal) l = wpOps P ops Q l := by
  induction l with
  | nil => rfl
  | cons i l ih => funext a w; rw [wpOps_cons, ← ih]; rfl

theorem does_wp {P : Program} {o : Oper} {a : Act} {W : World} {R : Value → World → Prop} {K : Act → World → Prop} {Q : Exit → Act → World → Prop} (h : Does P o a.eval W R) (hK : ∀ v W', R v W' → K (a.put o.dst v) W') : o.wp P a W K Q := by
  unfold Does at h
  unfold Oper.wp
  generalize (execOp a.eval o).run P W = r at *
  cases r with
  | ok x w' =>
    cases x <;> simp only [Oper.upon] at h ⊢ <;> first | exact hK _ _ h | exact h.elim | skip
    exact Calls.mono h (fun e w'' ⟨v, he, hr⟩ => by subst he; exact hK _ _ hr)
  | halt x w' => exact h.elim

/-- **A REGION THAT DRAWS ITS ORDER, WALKED ONCE.** The first k operations in whatever order their edges allow; the rest, whose order is forced, behind them. -/
theorem wp_region_rels {R0 R1 : World → World → Prop} (hR : Rels R0 R1) {Ps : Pres} {P : Program} {id : Nat} {ops : List Oper} {Q : Exit → Act → World → Prop} {a : Act} {w : World} (hdr : R0 w w.drew) (k : Nat) (m : Option Nat) (Ss : List (Nat × Spec))
    (hm : P.follows .mixedOrders = true) (hc : chk ops.toArray k = true)
    (h : Tree Ps P ops.toArray R0 R1 m Ss (fun a w => wpList P ops.toArray Q (ops.drop k) a w) w (ops.take k) 0 a [] []) : (Code.region id ops.toArray true).wp P Q a w := by
  refine wp_region_any hm (any_eq _ _ _ _ ?_)
  refine any_start (Ps := Ps) (P := P) (R0 := R0) (R1 := R1) (m := m) (Ss := Ss) (W0 := w) hR hc (fun i K K' a w h hs => wpOp_mono h hs) ?_ ?_ hdr ?_
  · intro i o K a W R ho hw hd hK
    unfold wpOp
    simp only [ho]
    rw [if_pos hw]
    exact .inl (does_wp hd hK)
  · intro i o K a W ho hw hK
    unfold wpOp
    simp only [ho]
    rw [if_neg (by rw [hw]; simp)]
    exact hK
  · have e : (fun a w => wpList P ops.toArray Q (ops.drop k) a w) = Seq (wpOp P ops.toArray Q) (Q .normal) (List.range' k (ops.toArray.size - k)) := by
      funext a w
      rw [seq_eq]
      have hkn := (chk_spec hc).kn
      have hlen : ops.toArray.size - k = (ops.drop k).length := by simp
      rw [hlen, wpOps_eq_wpList (ops.drop k) k (fun j => by simp)]
    rw [← e]
    exact h

theorem wp_region_rg {P : Program} {id : Nat} {ops : List Oper} {Q : Exit → Act → World → Prop} {a : Act} {w : World} (k : Nat) (Ms : List Nat) (m : Option Nat) (Ss : List (Nat × Spec))
    (hm : P.follows .mixedOrders = true) (hc : chk ops.toArray k = true)
    (h : Tree noPre P ops.toArray (Ext []) (Ext Ms) m Ss (fun a w => wpList P ops.toArray Q (ops.drop k) a w) w (ops.take k) 0 a [] []) : (Code.region id ops.toArray true).wp P Q a w :=
  wp_region_rels (rels_ext Ms) ((Ext.refl [] w).drew) k m Ss hm hc h

/-- w' goes on from w: nothing below B has turned, nor any block of cells; what was a Φ is one. -/
structure ExtM (B : Nat) (Φ : Obj → Prop) (w w' : World) : Prop where
  os : w'.os = w.os
  tape : w'.tape = w.tape
  output : w'.output = w.output
  size : w.heap.size ≤ w'.heap.size
  block : ∀ (k : Nat), k < w.heap.size → k < B → w'.heap[k]? = w.heap[k]?
  cells : ∀ (k : Nat) cs t f, w.heap[k]? = some (Obj.cells cs t f) → w'.heap[k]? = some (Obj.cells cs t f)
  keeps : ∀ (k : Nat) o, w.heap[k]? = some o → Φ o → ∃ o', w'.heap[k]? = some o' ∧ Φ o'

theorem ExtM.of_ext {B : Nat} {Φ : Obj → Prop} {w w' : World} (h : Ext [] w w') : ExtM B Φ w w' :=
  ⟨h.os, h.tape, h.output, h.size, fun k hk _ => h.block k hk (by simp), fun k cs t f hk => (h.block k (Array.getElem?_eq_some_iff.1 hk).1 (by simp)).trans hk,
    fun k o hk ho => ⟨o, (h.block k (Array.getElem?_eq_some_iff.1 hk).1 (by simp)).trans hk, ho⟩⟩
theorem ExtM.trans {B : Nat} {Φ : Obj → Prop} {a b c : World} (h : ExtM B Φ a b) (k : ExtM B Φ b c) : ExtM B Φ a c :=
  ⟨k.os.trans h.os, k.tape.trans h.tape, k.output.trans h.output, Nat.le_trans h.size k.size,
    fun i hi hm => (k.block i (Nat.lt_of_lt_of_le hi h.size) hm).trans (h.block i hi hm), fun i cs t f hi => k.cells i cs t f (h.cells i cs t f hi),
    fun i o hi ho => by obtain ⟨o1, h1, h2⟩ := h.keeps i o hi ho; exact k.keeps i o1 h1 h2⟩
theorem rels_extM (B : Nat) (Φ : Obj → Prop) : Rels (Ext []) (ExtM B Φ) := ⟨Ext.refl [], Ext.trans, ExtM.trans, ExtM.of_ext⟩
/-- The block mb, that was no block of cells and came behind B, has turned, and is a Φ. -/
theorem ExtM.of_one {B mb : Nat} {Φ : Obj → Prop} {w w' : World} (h : Ext [mb] w w') (hB : B ≤ mb) (hc : ∀ cs t f, w.heap[mb]? ≠ some (Obj.cells cs t f)) (hk : ∃ o, w'.heap[mb]? = some o ∧ Φ o) : ExtM B Φ w w' :=
  ⟨h.os, h.tape, h.output, h.size, fun k hk hB' => h.block k hk (by simp; omega), fun k cs t f hk =>
    (h.block k (Array.getElem?_eq_some_iff.1 hk).1 (by simp; exact fun e => hc cs t f (e ▸ hk))).trans hk,
    fun k o hk' ho => by
      by_cases e : k = mb
      · subst e; exact hk
      · exact ⟨o, (h.block k (Array.getElem?_eq_some_iff.1 hk').1 (by simpa using e)).trans hk', ho⟩⟩

/-- As 'wp_region_rg', where the one operation turns blocks that are no cells and are new in the region. -/
theorem wp_region_rgM {P : Program} {id : Nat} {ops : List Oper} {Q : Exit → Act → World → Prop} {a : Act} {w : World} (k : Nat) (Φ : Obj → Prop) (m : Option Nat) (Ss : List (Nat × Spec))
    (hm : P.follows .mixedOrders = true) (hc : chk ops.toArray k = true)
    (h : Tree noPre P ops.toArray (Ext []) (ExtM w.heap.size Φ) m Ss (fun a w => wpList P ops.toArray Q (ops.drop k) a w) w (ops.take k) 0 a [] []) : (Code.region id ops.toArray true).wp P Q a w :=
  wp_region_rels (rels_extM _ _) ((Ext.refl [] w).drew) k m Ss hm hc h

/-- As 'wp_region_rg', with facts that hold until m alone: m turns what is new in the region as it likes, and of the old the blocks Ms. -/
structure ExtN (B : Nat) (Ms : List Nat) (w w' : World) : Prop where
  os : w'.os = w.os
  tape : w'.tape = w.tape
  output : w'.output = w.output
  size : w.heap.size ≤ w'.heap.size
  block : ∀ (k : Nat), k < w.heap.size → k < B → k ∉ Ms → w'.heap[k]? = w.heap[k]?

theorem ExtN.of_ext {B : Nat} {Ms : List Nat} {w w' : World} (h : Ext [] w w') : ExtN B Ms w w' :=
  ⟨h.os, h.tape, h.output, h.size, fun k hk _ _ => h.block k hk (by simp)⟩
theorem ExtN.trans {B : Nat} {Ms : List Nat} {a b c : World} (h : ExtN B Ms a b) (k : ExtN B Ms b c) : ExtN B Ms a c :=
  ⟨k.os.trans h.os, k.tape.trans h.tape, k.output.trans h.output, Nat.le_trans h.size k.size,
    fun i hi hb hm => (k.block i (Nat.lt_of_lt_of_le hi h.size) hb hm).trans (h.block i hi hb hm)⟩
theorem rels_extN (B : Nat) (Ms : List Nat) : Rels (Ext []) (ExtN B Ms) := ⟨Ext.refl [], Ext.trans, ExtN.trans, ExtN.of_ext⟩

theorem wp_region_rgP {P : Program} {id : Nat} {ops : List Oper} {Q : Exit → Act → World → Prop} {a : Act} {w : World} (k : Nat) (Ms : List Nat) (m : Option Nat) (Ss : List (Nat × Spec)) (Ps : Pres)
    (hm : P.follows .mixedOrders = true) (hc : chk ops.toArray k = true)
    (h : Tree Ps P ops.toArray (Ext []) (ExtN w.heap.size Ms) m Ss (fun a w => wpList P ops.toArray Q (ops.drop k) a w) w (ops.take k) 0 a [] []) : (Code.region id ops.toArray true).wp P Q a w :=
  wp_region_rels (rels_extN _ _) ((Ext.refl [] w).drew) k m Ss hm hc h

/-- What is known of a way in which a world goes on, at the region's own start. -/
class Kept (R1 : World → World → Prop) (Ms : outParam (List Nat)) (W0 : World) : Prop where
  nil : ∀ {a b}, Ext [] a b → R1 a b
  ext : ∀ {W}, R1 W0 W → Ext Ms W0 W
instance (Ms : List Nat) (W0 : World) : Kept (Ext Ms) Ms W0 := ⟨Ext.nil, id⟩
instance (Φ : Obj → Prop) (W0 : World) : Kept (ExtM W0.heap.size Φ) [] W0 := ⟨ExtM.of_ext, fun h => ⟨h.os, h.tape, h.output, h.size, fun k hk _ => h.block k hk hk⟩⟩

instance (Ms : List Nat) (W0 : World) : Kept (ExtN W0.heap.size Ms) Ms W0 := ⟨ExtN.of_ext, fun h => ⟨h.os, h.tape, h.output, h.size, fun k hk hm => h.block k hk hk hm⟩⟩

/-! ### The steps of the text's walk -/
section
variable {P : Program} {ops : Array Oper} {R1 : World → World → Prop} {Ms : List Nat} {m : Option Nat} {Ss : List (Nat × Spec)} {Fin : Act → World → Prop} {W0 : World} {o : Oper} {rest : List Oper} {i : Nat} {a : Act} {F G : Facts} {Ps : Pres}

theorem Rely.ext [Kept R1 Ms W0] {W : World} (h : Rely ops (Ext []) R1 m W0 F G i W) : Ext Ms W0 W := by
  have h1 := h.1
  unfold relNot at h1
  split at h1
  · exact h1.nil
  · exact Kept.ext h1

theorem tree_det [Kept R1 Ms W0] (hs : Ss.lookup i = none) (v : Value) (hw : Region.wanted o (yielded ops a.tmps) = true)
    (hr : ∀ W : World, (∀ b off, b < W0.heap.size → b ∉ Ms → W.cell? ⟨b, off, none⟩ = W0.cell? ⟨b, off, none⟩) → (execOp a.eval o).run P W = .ok (.value v) W)
    (ht : Tree Ps P ops (Ext []) R1 m Ss Fin W0 rest (i + 1) (a.put o.dst v) F G) : Tree Ps P ops (Ext []) R1 m Ss Fin W0 (o :: rest) i a F G := by
  unfold Tree
  simp only [hs]
  exact ⟨v, .inl ⟨hw, fun W hW => hr W fun b off hb hm => hW.ext.cell b off hb hm⟩, ht⟩

/-- As 'tree_det', where what an earlier operation has left is wanted. -/
theorem tree_det_on [Kept R1 Ms W0] (hs : Ss.lookup i = none) (v : Value) (hw : Region.wanted o (yielded ops a.tmps) = true)
    (hr : ∀ W : World, Ext Ms W0 W → (∀ f ∈ F, isAnc ops f.1 i = true → f.2 W) → (execOp a.eval o).run P W = .ok (.value v) W)
    (ht : Tree Ps P ops (Ext []) R1 m Ss Fin W0 rest (i + 1) (a.put o.dst v) F G) : Tree Ps P ops (Ext []) R1 m Ss Fin W0 (o :: rest) i a F G := by
  unfold Tree
  simp only [hs]
  exact ⟨v, .inl ⟨hw, fun W hW => hr W hW.ext hW.2.1⟩, ht⟩

theorem of_ext0 [Kept R1 Ms W0] {W W' : World} (h : Ext [] W W') : relOf (Ext []) R1 m i W W' := by
  unfold relOf
  split
  · exact Kept.nil (R1 := R1) (W0 := W0) h
  · exact h

theorem tree_skip (hs : Ss.lookup i = none) (hw : Region.wanted o (yielded ops a.tmps) = false)
    (ht : Tree Ps P ops (Ext []) R1 m Ss Fin W0 rest (i + 1) (a.put o.dst undef) F G) : Tree Ps P ops (Ext []) R1 m Ss Fin W0 (o :: rest) i a F G := by
  unfold Tree
  simp only [hs]
  exact ⟨undef, .inr ⟨hw, rfl⟩, ht⟩

/-- The value is v, whatever the world; nothing that was there has turned. -/
def Spec.val (v : Value) : Spec := ⟨fun _ x => x = v, fun _ _ _ => True⟩

theorem tree_val [Kept R1 Ms W0] (v : Value) (hs : Ss.lookup i = some (Spec.val v)) (hw : Region.wanted o (yielded ops a.tmps) = true) (f : FuncId) (args : Array Value)
    (he : ∀ W : World, (∀ b off, b < W0.heap.size → b ∉ Ms → W.cell? ⟨b, off, none⟩ = W0.cell? ⟨b, off, none⟩) → (execOp a.eval o).run P W = .ok (.enter f args) W)
    (hcall : ∀ W : World, Ext Ms W0 W → (∀ f ∈ F, isAnc ops f.1 i = true → f.2 W) → Calls P f args W (fun e W' => e = .returned v ∧ Below W.heap.size W W'))
    (ht : Tree Ps P ops (Ext []) R1 m Ss Fin W0 rest (i + 1) (a.put o.dst v) F G) (hps : ∀ x v W, Ps i x v W := by intro _ _ _; exact True.intro) : Tree Ps P ops (Ext []) R1 m Ss Fin W0 (o :: rest) i a F G := by
  have mono : ∀ (rest : List Oper) (i : Nat) (a : Act) (F F' G G' : Facts), (∀ f, f ∈ F' → f ∈ F ∨ ∀ W, f.2 W) → (∀ f, f ∈ F → f ∈ F') → (∀ f, f ∈ G → f ∈ G') → Tree Ps P ops (Ext []) R1 m Ss Fin W0 rest i a F G → Tree Ps P ops (Ext []) R1 m Ss Fin W0 rest i a F' G' := by
    intro rest
    induction rest with
    | nil =>
      intro i a F F' G G' h1 h2 h3 h W hW hF
      exact h W hW (fun f hf => hF f (h2 f hf))
    | cons o rest ih =>
      intro i a F F' G G' h1 h2 h3 h
      have hrely : ∀ W, Rely ops (Ext []) R1 m W0 F' G' i W → Rely ops (Ext []) R1 m W0 F G i W := fun W hW => ⟨hW.1, fun f hf ha => hW.2.1 f (h2 f hf) ha, fun hm f hf ha => hW.2.2 hm f (h3 f hf) ha⟩
      have hcons : ∀ (x : Nat × (World → Prop)) (A B : Facts), (∀ f, f ∈ A → f ∈ B) → ∀ f, f ∈ x :: A → f ∈ x :: B := by
        intro x A B hAB f hf
        rcases List.mem_cons.1 hf with rfl | hf
        · simp
        · simp [hAB f hf]
      unfold Tree at h ⊢
      cases hs : Ss.lookup i with
      | none =>
        simp only [hs] at h ⊢
        obtain ⟨v, hv, ht⟩ := h
        exact ⟨v, hv.imp (fun x => ⟨x.1, fun W hW => x.2 W (hrely W hW)⟩) id, ih _ _ _ _ _ _ h1 h2 h3 ht⟩
      | some s =>
        simp only [hs] at h ⊢
        obtain ⟨x1, x2, x3, x4, x5⟩ := h
        refine ⟨x1, x2, fun W hW => x3 W (hrely W hW), x4, fun v hv => ih _ _ _ _ _ _ ?_ (hcons _ _ _ h2) (hcons _ _ _ h3) (x5 v hv)⟩
        intro f hf
        rcases List.mem_cons.1 hf with rfl | hf
        · exact .inl (by simp)
        · exact (h1 f hf).imp (fun h => by simp [h]) id
  unfold Tree
  simp only [hs]
  refine ⟨hw, ⟨v, rfl⟩, fun W hW => ?_, ⟨fun _ _ _ _ _ => trivial, fun v' _ W' _ _ => hps _ _ _⟩, fun v' hv => ?_⟩
  · unfold Does
    rw [he W (fun b off hb hm => hW.ext.cell b off hb hm)]
    exact (hcall W hW.ext hW.2.1).mono fun e W' ⟨h1, h2⟩ => ⟨v, h1, rfl, trivial, of_ext0 (R1 := R1) (W0 := W0) (Ext.of_below h2), hps _ _ _⟩
  · have : v' = v := hv
    subst this
    refine mono _ _ _ _ _ _ _ ?_ ?_ ?_ ht
    · intro f hf
      rcases List.mem_cons.1 hf with rfl | hf
      · exact .inr (fun _ => trivial)
      · exact .inl hf
    · intro f hf
      simp [hf]
    · intro f hf
      simp [hf]

/-- A call, or a new block, of whose value something is known, and which turns nothing that was there but (for the one operation m) the blocks Ms. -/
theorem tree_some (s : Spec) (hs : Ss.lookup i = some s) (hw : Region.wanted o (yielded ops a.tmps) = true) (hex : ∃ v, s.pure (opv o a) v)
    (hdo : ∀ W : World, relNot (Ext []) R1 m i W0 W → (∀ f ∈ F, isAnc ops f.1 i = true → f.2 W) → Does P o a.eval W (fun v W' => s.pure (opv o a) v ∧ s.world (opv o a) v W' ∧ relOf (Ext []) R1 m i W W'))
    (hst : ∀ v W W', s.world (opv o a) v W → relNot (Ext []) R1 m i W W' → s.world (opv o a) v W')
    (ht : ∀ v, s.pure (opv o a) v → Tree Ps P ops (Ext []) R1 m Ss Fin W0 rest (i + 1) (a.put o.dst v) ((i, s.world (opv o a) v) :: F) ((i, Ps i (opv o a) v) :: G)) (hps : ∀ x v W, Ps i x v W := by intro _ _ _; exact True.intro) : Tree Ps P ops (Ext []) R1 m Ss Fin W0 (o :: rest) i a F G := by
  unfold Tree
  simp only [hs]
  refine ⟨hw, hex, fun W hW => ?_, ⟨hst, fun v' _ W' _ _ => hps _ _ _⟩, ht⟩
  have := hdo W hW.1 hW.2.1
  unfold Does at this ⊢
  split at this
  · exact ⟨this.1, this.2.1, this.2.2, hps _ _ _⟩
  · exact ⟨this.1, this.2.1, this.2.2, hps _ _ _⟩
  · exact this.mono fun e w' ⟨v, h1, h2, h3, h4⟩ => ⟨v, h1, h2, h3, h4, hps _ _ _⟩
  · exact this.elim

/-- The same, where something holds until m. -/
theorem tree_pre (s : Spec) (hs : Ss.lookup i = some s) (hw : Region.wanted o (yielded ops a.tmps) = true) (hex : ∃ v, s.pure (opv o a) v)
    (hdo : ∀ W : World, relNot (Ext []) R1 m i W0 W → (∀ f ∈ F, isAnc ops f.1 i = true → f.2 W) → (m = some i → ∀ g ∈ G, isAnc ops g.1 i = true → g.2 W) →
      Does P o a.eval W (fun v W' => s.pure (opv o a) v ∧ s.world (opv o a) v W' ∧ relOf (Ext []) R1 m i W W' ∧ Ps i (opv o a) v W'))
    (hst : ∀ v W W', s.world (opv o a) v W → relNot (Ext []) R1 m i W W' → s.world (opv o a) v W') (hsp : ∀ v W W', Ps i (opv o a) v W → Ext [] W W' → Ps i (opv o a) v W')
    (ht : ∀ v, s.pure (opv o a) v → Tree Ps P ops (Ext []) R1 m Ss Fin W0 rest (i + 1) (a.put o.dst v) ((i, s.world (opv o a) v) :: F) ((i, Ps i (opv o a) v) :: G)) : Tree Ps P ops (Ext []) R1 m Ss Fin W0 (o :: rest) i a F G := by
  unfold Tree
  simp only [hs]
  exact ⟨hw, hex, fun W hW => hdo W hW.1 hW.2.1 hW.2.2, ⟨hst, hsp⟩, ht⟩

theorem does_enter {ρ : Operand → Value} {W : World} {R : Value → World → Prop} (f : FuncId) (args : Array Value) (he : (execOp ρ o).run P W = .ok (.enter f args) W)
    (h : Calls P f args W (fun e W' => ∃ v, e = .returned v ∧ R v W')) : Does P o ρ W R := by
  unfold Does; rw [he]; exact h
theorem does_value {ρ : Operand → Value} {W W' : World} {R : Value → World → Prop} (v : Value) (he : (execOp ρ o).run P W = .ok (.value v) W') (h : R v W') : Does P o ρ W R := by
  unfold Does; rw [he]; exact h

/-- A new block that holds the cells cs. -/
def Spec.block (B : Nat) (cs : Array Value) (t : TypeId) : Spec :=
  ⟨fun _ v => ∃ b : Nat, v = .pointer (some ⟨b, 0, none⟩), fun _ v W => ∃ b : Nat, v = .pointer (some ⟨b, 0, none⟩) ∧ B ≤ b ∧ W.heap[b]? = some (.cells cs t (0, 0))⟩

theorem tree_block (B : Nat) (cs : Array Value) (t : TypeId) (hs : Ss.lookup i = some (Spec.block B cs t)) (hB : B ≤ W0.heap.size) (hw : Region.wanted o (yielded ops a.tmps) = true) (hMs : ∀ x ∈ Ms, x < B) (hmi : m ≠ some i)
    (he : ∀ W : World, (∀ b off, b < W0.heap.size → b ∉ Ms → W.cell? ⟨b, off, none⟩ = W0.cell? ⟨b, off, none⟩) → (execOp a.eval o).run P W = .ok (.value (.pointer (some ⟨W.heap.size, 0, none⟩))) (W.alloc (.cells cs t)))
    (ht : ∀ b : Nat, Tree Ps P ops (Ext []) (Ext Ms) m Ss Fin W0 rest (i + 1) (a.put o.dst (.pointer (some ⟨b, 0, none⟩))) ((i, fun W => ∃ c : Nat, Value.pointer (some ⟨b, 0, none⟩) = .pointer (some ⟨c, 0, none⟩) ∧ B ≤ c ∧ W.heap[c]? = some (.cells cs t (0, 0))) :: F) ((i, Ps i (opv o a) (.pointer (some ⟨b, 0, none⟩))) :: G)) (hps : ∀ x v W, Ps i x v W := by intro _ _ _; exact True.intro) :
    Tree Ps P ops (Ext []) (Ext Ms) m Ss Fin W0 (o :: rest) i a F G := by
  refine tree_some _ hs hw ⟨.pointer (some ⟨0, 0, none⟩), 0, rfl⟩ ?_ ?_ ?_ ?_
  · intro W hW _
    have hW' : Ext Ms W0 W := by
      unfold relNot at hW
      rw [if_neg hmi] at hW
      exact hW
    refine does_value _ (he W fun b off hb hm => hW'.cell b off hb hm) ⟨⟨_, rfl⟩, ⟨_, rfl, Nat.le_trans hB hW'.size, heap_alloc_new W _⟩, of_ext0 (R1 := Ext Ms) (W0 := W0) (Ext.of_below ?_)⟩
    exact (Below.refl _ _).alloc (Nat.le_refl _) _
  · rintro v W W' ⟨b, hb, hle, hc⟩ hE
    unfold relNot at hE
    rw [if_neg hmi] at hE
    exact ⟨b, hb, hle, (hE.block b (Array.getElem?_eq_some_iff.1 hc).1 (fun h => by have := hMs b h; omega)).trans hc⟩
  · rintro v ⟨b, rfl⟩
    exact ht b
  · exact hps

/-- A new slice of n elements that holds the cells cs. -/
def Spec.slice (B : Nat) (cs : Array Value) (t : TypeId) (n : Nat) : Spec :=
  ⟨fun _ v => ∃ b : Nat, v = .slice (some ⟨b, 0, none⟩) n n, fun _ v W => ∃ b : Nat, v = .slice (some ⟨b, 0, none⟩) n n ∧ B ≤ b ∧ W.heap[b]? = some (.cells cs t (0, 0))⟩

theorem tree_slice (B : Nat) (cs : Array Value) (t : TypeId) (n : Nat) (hs : Ss.lookup i = some (Spec.slice B cs t n)) (hB : B ≤ W0.heap.size) (hw : Region.wanted o (yielded ops a.tmps) = true) (hMs : ∀ x ∈ Ms, x < B) (hmi : m ≠ some i)
    (he : ∀ W : World, (∀ b off, b < W0.heap.size → b ∉ Ms → W.cell? ⟨b, off, none⟩ = W0.cell? ⟨b, off, none⟩) → (execOp a.eval o).run P W = .ok (.value (.slice (some ⟨W.heap.size, 0, none⟩) n n)) (W.alloc (.cells cs t)))
    (ht : ∀ b : Nat, Tree Ps P ops (Ext []) (Ext Ms) m Ss Fin W0 rest (i + 1) (a.put o.dst (.slice (some ⟨b, 0, none⟩) n n)) ((i, fun W => ∃ c : Nat, Value.slice (some ⟨b, 0, none⟩) n n = .slice (some ⟨c, 0, none⟩) n n ∧ B ≤ c ∧ W.heap[c]? = some (.cells cs t (0, 0))) :: F) ((i, Ps i (opv o a) (.slice (some ⟨b, 0, none⟩) n n)) :: G)) (hps : ∀ x v W, Ps i x v W := by intro _ _ _; exact True.intro) :
    Tree Ps P ops (Ext []) (Ext Ms) m Ss Fin W0 (o :: rest) i a F G := by
  refine tree_some _ hs hw ⟨.slice (some ⟨0, 0, none⟩) n n, 0, rfl⟩ ?_ ?_ ?_ ?_
  · intro W hW _
    have hW' : Ext Ms W0 W := by
      unfold relNot at hW
      rw [if_neg hmi] at hW
      exact hW
    refine does_value _ (he W fun b off hb hm => hW'.cell b off hb hm) ⟨⟨_, rfl⟩, ⟨_, rfl, Nat.le_trans hB hW'.size, heap_alloc_new W _⟩, of_ext0 (R1 := Ext Ms) (W0 := W0) (Ext.of_below ?_)⟩
    exact (Below.refl _ _).alloc (Nat.le_refl _) _
  · rintro v W W' ⟨b, hb, hle, hc⟩ hE
    unfold relNot at hE
    rw [if_neg hmi] at hE
    exact ⟨b, hb, hle, (hE.block b (Array.getElem?_eq_some_iff.1 hc).1 (fun h => by have := hMs b h; omega)).trans hc⟩
  · rintro v ⟨b, rfl⟩
    exact ht b
  · exact hps

/-- As 'tree_block', where the one operation turns no cells. -/
theorem tree_blockM {Φ : Obj → Prop} (B : Nat) (cs : Array Value) (t : TypeId) (hs : Ss.lookup i = some (Spec.block B cs t)) (hB : B ≤ W0.heap.size) (hw : Region.wanted o (yielded ops a.tmps) = true) (hmi : m ≠ some i)
    (he : ∀ W : World, (∀ b off, b < W0.heap.size → b ∉ [] → W.cell? ⟨b, off, none⟩ = W0.cell? ⟨b, off, none⟩) → (execOp a.eval o).run P W = .ok (.value (.pointer (some ⟨W.heap.size, 0, none⟩))) (W.alloc (.cells cs t)))
    (ht : ∀ b : Nat, Tree Ps P ops (Ext []) (ExtM W0.heap.size Φ) m Ss Fin W0 rest (i + 1) (a.put o.dst (.pointer (some ⟨b, 0, none⟩))) ((i, fun W => ∃ c : Nat, Value.pointer (some ⟨b, 0, none⟩) = .pointer (some ⟨c, 0, none⟩) ∧ B ≤ c ∧ W.heap[c]? = some (.cells cs t (0, 0))) :: F) ((i, Ps i (opv o a) (.pointer (some ⟨b, 0, none⟩))) :: G)) (hps : ∀ x v W, Ps i x v W := by intro _ _ _; exact True.intro) :
    Tree Ps P ops (Ext []) (ExtM W0.heap.size Φ) m Ss Fin W0 (o :: rest) i a F G := by
  refine tree_some _ hs hw ⟨.pointer (some ⟨0, 0, none⟩), 0, rfl⟩ ?_ ?_ ?_ ?_
  · intro W hW _
    have hW' : Ext [] W0 W := by
      unfold relNot at hW
      rw [if_neg hmi] at hW
      exact Kept.ext hW
    refine does_value _ (he W fun b off hb hm => hW'.cell b off hb hm) ⟨⟨_, rfl⟩, ⟨_, rfl, Nat.le_trans hB hW'.size, heap_alloc_new W _⟩, of_ext0 (R1 := ExtM W0.heap.size Φ) (W0 := W0) (Ext.of_below ?_)⟩
    exact (Below.refl _ _).alloc (Nat.le_refl _) _
  · rintro v W W' ⟨b, hb, hle, hc⟩ hE
    unfold relNot at hE
    rw [if_neg hmi] at hE
    exact ⟨b, hb, hle, hE.cells _ _ _ _ hc⟩
  · rintro v ⟨b, rfl⟩
    exact ht b
  · exact hps
end

end Go.RG

/-
  As Region, where an operation that comes ahead of the one writing operation is told that this has not come yet, and where each operation may turn more than nothing (the relation R0). Lemmas over any program. append onto a slice of the call's own, in two cases: in its own block, or in a new one, and then nothing that was there has turned; the relations of a region in which one operation appends and another one stores. Lemmas over any program.
-/
import Derived.Test.YtoibfafmnaooaaaRegion
import Derived.Test.YtoibfafmnaooaaaSA
namespace Go.RG.R2
open Go.RowKit

/-- Operation i is the one writing operation, or comes ahead of it. -/
def comesTo (ops : Array Oper) (m : Option Nat) (i : Nat) : Bool :=
  match m with
  | some x => decide (x = i) || isAnc ops i x
  | none => false
def relRely (ops : Array Oper) (R0 R1 : World → World → Prop) (m : Option Nat) (i : Nat) : World → World → Prop := if comesTo ops m i = true then R0 else R1

def Rely (ops : Array Oper) (R0 R1 : World → World → Prop) (m : Option Nat) (W0 : World) (F G : Facts) (i : Nat) (W : World) : Prop :=
  relRely ops R0 R1 m i W0 W ∧ (∀ f ∈ F, isAnc ops f.1 i = true → f.2 W) ∧ (m = some i → ∀ g ∈ G, isAnc ops g.1 i = true → g.2 W)

/-- The walk in the text's order. -/
def Tree (Ps : Pres) (P : Program) (ops : Array Oper) (R0 R1 : World → World → Prop) (m : Option Nat) (Ss : List (Nat × Spec)) (Fin : Act → World → Prop) (W0 : World) :
    List Oper → Nat → Act → Facts → Facts → Prop
  | [], _, a, F, _ => ∀ W, R1 W0 W → (∀ f ∈ F, f.2 W) → Fin a W
  | o :: rest, i, a, F, G =>
    match Ss.lookup i with
    | none => ∃ v, ((Region.wanted o (yielded ops a.tmps) = true ∧ ∀ W, Rely ops R0 R1 m W0 F G i W → (execOp a.eval o).run P W = .ok (.value v) W) ∨
          (Region.wanted o (yielded ops a.tmps) = false ∧ v = undef)) ∧ Tree Ps P ops R0 R1 m Ss Fin W0 rest (i + 1) (a.put o.dst v) F G
    | some s => Region.wanted o (yielded ops a.tmps) = true ∧ (∃ v, s.pure (opv o a) v) ∧
        (∀ W, Rely ops R0 R1 m W0 F G i W → Does P o a.eval W (fun v W' => s.pure (opv o a) v ∧ s.world (opv o a) v W' ∧ relOf R0 R1 m i W W' ∧ Ps i (opv o a) v W')) ∧
        ((∀ v W W', s.world (opv o a) v W → relNot R0 R1 m i W W' → s.world (opv o a) v W') ∧ (∀ v W W', Ps i (opv o a) v W → R0 W W' → Ps i (opv o a) v W')) ∧
        ∀ v, s.pure (opv o a) v → Tree Ps P ops R0 R1 m Ss Fin W0 rest (i + 1) (a.put o.dst v) ((i, s.world (opv o a) v) :: F) ((i, Ps i (opv o a) v) :: G)


section
variable {Ps : Pres} {P : Program} {ops : Array Oper} {R0 R1 : World → World → Prop} {m : Option Nat} {Ss : List (Nat × Spec)} {W0 : World} {a0 : Act}

abbrev pf (ops : Array Oper) (a0 : Act) (env : Nat → Value) (i : Nat) : Act := putAll ops env a0 (List.range i)

theorem pf_succ (env : Nat → Value) (i : Nat) : pf ops a0 env (i + 1) = (pf ops a0 env i).put (dstOf ops i) (env i) := by
  unfold pf; rw [List.range_succ, putAll_snoc]

theorem pf_congr {env env' : Nat → Value} {i : Nat} (h : ∀ j, j < i → env j = env' j) : pf ops a0 env i = pf ops a0 env' i :=
  putAll_congr fun j hj => h j (by simpa using hj)

/-- What operation j has left, said at the world W. -/
def Left (ops : Array Oper) (a0 : Act) (env : Nat → Value) (j : Nat) (s : Spec) (W : World) : Prop := s.world (opv (ops.getD j default) (pf ops a0 env j)) (env j) W

/-- The same of what holds until m. -/
def LeftP (Ps : Pres) (ops : Array Oper) (a0 : Act) (env : Nat → Value) (j : Nat) (W : World) : Prop := Ps j (opv (ops.getD j default) (pf ops a0 env j)) (env j) W

def RelyAt (Ps : Pres) (ops : Array Oper) (R0 R1 : World → World → Prop) (m : Option Nat) (Ss : List (Nat × Spec)) (W0 : World) (a0 : Act) (env : Nat → Value) (i : Nat) (W : World) : Prop :=
  relRely ops R0 R1 m i W0 W ∧ (∀ j s, Ss.lookup j = some s → j < i → isAnc ops j i = true → Left ops a0 env j s W) ∧
    (m = some i → ∀ j s, Ss.lookup j = some s → j < i → isAnc ops j i = true → LeftP Ps ops a0 env j W)

def Node (Ps : Pres) (P : Program) (ops : Array Oper) (R0 R1 : World → World → Prop) (m : Option Nat) (Ss : List (Nat × Spec)) (W0 : World) (a0 : Act) (env : Nat → Value) (i : Nat) (o : Oper) : Prop :=
  match Ss.lookup i with
  | none => (Region.wanted o (yielded ops (pf ops a0 env i).tmps) = true ∧ ∀ W, RelyAt Ps ops R0 R1 m Ss W0 a0 env i W → (execOp (pf ops a0 env i).eval o).run P W = .ok (.value (env i)) W) ∨
      (Region.wanted o (yielded ops (pf ops a0 env i).tmps) = false ∧ env i = undef)
  | some s => Region.wanted o (yielded ops (pf ops a0 env i).tmps) = true ∧ s.pure (opv o (pf ops a0 env i)) (env i) ∧
      (∀ W, RelyAt Ps ops R0 R1 m Ss W0 a0 env i W → Does P o (pf ops a0 env i).eval W (fun v W' => s.pure (opv o (pf ops a0 env i)) v ∧ s.world (opv o (pf ops a0 env i)) v W' ∧ relOf R0 R1 m i W W' ∧ Ps i (opv o (pf ops a0 env i)) v W')) ∧
      (∀ v W W', s.world (opv o (pf ops a0 env i)) v W → relNot R0 R1 m i W W' → s.world (opv o (pf ops a0 env i)) v W') ∧
      (∀ v W W', Ps i (opv o (pf ops a0 env i)) v W → R0 W W' → Ps i (opv o (pf ops a0 env i)) v W')

theorem Left_congr {env env' : Nat → Value} {j : Nat} {s : Spec} {W : World} (h : ∀ i, i ≤ j → env i = env' i) (hl : Left ops a0 env j s W) : Left ops a0 env' j s W := by
  unfold Left at *
  rw [pf_congr (fun i hi => (h i (by omega)).symm), ← h j (Nat.le_refl _)]
  exact hl

theorem LeftP_congr {env env' : Nat → Value} {j : Nat} {W : World} (h : ∀ i, i ≤ j → env i = env' i) (hl : LeftP Ps ops a0 env j W) : LeftP Ps ops a0 env' j W := by
  unfold LeftP at *
  rw [pf_congr (fun i hi => (h i (by omega)).symm), ← h j (Nat.le_refl _)]
  exact hl

theorem RelyAt_congr {env env' : Nat → Value} {i : Nat} {W : World} (h : ∀ j, j < i → env j = env' j) (hr : RelyAt Ps ops R0 R1 m Ss W0 a0 env i W) : RelyAt Ps ops R0 R1 m Ss W0 a0 env' i W :=
  ⟨hr.1, fun j s hs hj ha => Left_congr (fun t ht => h t (by omega)) (hr.2.1 j s hs hj ha), fun hm j s hs hj ha => LeftP_congr (fun t ht => h t (by omega)) (hr.2.2 hm j s hs hj ha)⟩

theorem Node_congr {env env' : Nat → Value} {i : Nat} {o : Oper} (h : ∀ j, j ≤ i → env j = env' j) (hn : Node Ps P ops R0 R1 m Ss W0 a0 env i o) : Node Ps P ops R0 R1 m Ss W0 a0 env' i o := by
  have hp : pf ops a0 env i = pf ops a0 env' i := pf_congr fun j hj => h j (by omega)
  have hr : ∀ W, RelyAt Ps ops R0 R1 m Ss W0 a0 env' i W → RelyAt Ps ops R0 R1 m Ss W0 a0 env i W := fun W => RelyAt_congr fun j hj => (h j (by omega)).symm
  unfold Node at *
  rw [← hp, ← h i (Nat.le_refl _)]
  cases hs : Ss.lookup i with
  | none =>
    simp only [hs] at hn ⊢
    exact hn.imp (fun x => ⟨x.1, fun W hW => x.2 W (hr W hW)⟩) id
  | some s =>
    simp only [hs] at hn ⊢
    exact ⟨hn.1, hn.2.1, fun W hW => hn.2.2.1 W (hr W hW), hn.2.2.2⟩

/-- The facts that the text's walk has gathered. -/
def Fs (ops : Array Oper) (Ss : List (Nat × Spec)) (a0 : Act) (env : Nat → Value) : Nat → Facts
  | 0 => []
  | t + 1 => match Ss.lookup t with
    | none => Fs ops Ss a0 env t
    | some s => (t, s.world (opv (ops.getD t default) (pf ops a0 env t)) (env t)) :: Fs ops Ss a0 env t

theorem mem_Fs {env : Nat → Value} {t : Nat} {f : Nat × (World → Prop)} : f ∈ Fs ops Ss a0 env t ↔ ∃ j s, j < t ∧ Ss.lookup j = some s ∧ f = (j, Left ops a0 env j s) := by
  induction t with
  | zero => simp [Fs]
  | succ t ih =>
    unfold Fs
    cases hs : Ss.lookup t with
    | none =>
      simp only [ih]
      constructor
      · rintro ⟨j, s, hj, h1, h2⟩; exact ⟨j, s, by omega, h1, h2⟩
      · rintro ⟨j, s, hj, h1, h2⟩
        have : j ≠ t := fun e => by subst e; rw [hs] at h1; cases h1
        exact ⟨j, s, by omega, h1, h2⟩
    | some s0 =>
      simp only [List.mem_cons, ih]
      constructor
      · rintro (rfl | ⟨j, s, hj, h1, h2⟩)
        · exact ⟨t, s0, by omega, hs, rfl⟩
        · exact ⟨j, s, by omega, h1, h2⟩
      · rintro ⟨j, s, hj, h1, h2⟩
        by_cases e : j = t
        · subst e; rw [hs] at h1; cases h1; exact .inl h2
        · exact .inr ⟨j, s, by omega, h1, h2⟩

theorem Fs_congr {env env' : Nat → Value} {t : Nat} (h : ∀ j, j < t → env j = env' j) : Fs ops Ss a0 env t = Fs ops Ss a0 env' t := by
  induction t with
  | zero => rfl
  | succ t ih =>
    unfold Fs
    rw [ih (fun j hj => h j (by omega)), pf_congr (env := env) (env' := env') (fun j hj => h j (by omega)), h t (by omega)]

/-- The same of what holds until m. -/
def Gs (Ps : Pres) (ops : Array Oper) (Ss : List (Nat × Spec)) (a0 : Act) (env : Nat → Value) : Nat → Facts
  | 0 => []
  | t + 1 => match Ss.lookup t with
    | none => Gs Ps ops Ss a0 env t
    | some _ => (t, Ps t (opv (ops.getD t default) (pf ops a0 env t)) (env t)) :: Gs Ps ops Ss a0 env t

theorem mem_Gs {env : Nat → Value} {t : Nat} {f : Nat × (World → Prop)} : f ∈ Gs Ps ops Ss a0 env t → ∃ j s, j < t ∧ Ss.lookup j = some s ∧ f = (j, LeftP Ps ops a0 env j) := by
  induction t with
  | zero => simp [Gs]
  | succ t ih =>
    unfold Gs
    cases hs : Ss.lookup t with
    | none => exact fun h => by obtain ⟨j, s, hj, h1, h2⟩ := ih h; exact ⟨j, s, by omega, h1, h2⟩
    | some s0 =>
      simp only [List.mem_cons]
      rintro (rfl | h)
      · exact ⟨t, s0, by omega, hs, rfl⟩
      · obtain ⟨j, s, hj, h1, h2⟩ := ih h; exact ⟨j, s, by omega, h1, h2⟩

theorem Gs_congr {env env' : Nat → Value} {t : Nat} (h : ∀ j, j < t → env j = env' j) : Gs Ps ops Ss a0 env t = Gs Ps ops Ss a0 env' t := by
  induction t with
  | zero => rfl
  | succ t ih =>
    unfold Gs
    rw [ih (fun j hj => h j (by omega)), pf_congr (env := env) (env' := env') (fun j hj => h j (by omega)), h t (by omega)]

theorem rely_of {env : Nat → Value} {i : Nat} {W : World} (h : RelyAt Ps ops R0 R1 m Ss W0 a0 env i W) : Rely ops R0 R1 m W0 (Fs ops Ss a0 env i) (Gs Ps ops Ss a0 env i) i W :=
  ⟨h.1, fun f hf ha => by
    obtain ⟨j, s, hj, hs, rfl⟩ := mem_Fs.1 hf
    exact h.2.1 j s hs hj ha, fun hm f hf ha => by
    obtain ⟨j, s, hj, hs, rfl⟩ := mem_Gs hf
    exact h.2.2 hm j s hs hj ha⟩
/-- What is on record of one that has come. -/
def Rec (Ps : Pres) (P : Program) (ops : Array Oper) (R0 R1 : World → World → Prop) (m : Option Nat) (Ss : List (Nat × Spec)) (W0 : World) (a0 : Act) (env : Nat → Value) (i : Nat) (o : Oper) : Prop :=
  match Ss.lookup i with
  | none => (Region.wanted o (yielded ops (pf ops a0 env i).tmps) = true ∧ ∃ W, RelyAt Ps ops R0 R1 m Ss W0 a0 env i W ∧ (execOp (pf ops a0 env i).eval o).run P W = .ok (.value (env i)) W) ∨
      (Region.wanted o (yielded ops (pf ops a0 env i).tmps) = false ∧ env i = undef)
  | some s => s.pure (opv o (pf ops a0 env i)) (env i)

variable {k : Nat} (hc : Chk ops k)
include hc

/-- Two prefixes over two environments that agree on what comes ahead look alike to operation i. -/
theorem look_pf {env env' : Nat → Value} {i : Nat} {o : Oper} (hi : i < k) (ho : ops[i]? = some o) (h : ∀ j, j < i → isAnc ops j i = true → env j = env' j) :
    SameLook ops o (pf ops a0 env i) (pf ops a0 env' i) := by
  intro t ht
  refine agree t (fun _ _ => Iff.rfl) ?_ ?_
  · intro j hj hd
    have hj' : j < i := by simpa using hj
    rcases hc.look i o hi ho t ht j (by omega) hd (by omega) with h1 | h1
    · exact h j hj' h1.2
    · omega
  · intro x y hx hy hdx hdy
    have hx' : x < i := by simpa using hx
    have hy' : y < i := by simpa using hy
    exact hc.dist x y (by omega) (by omega) t hdx hdy

theorem opv_pf {env env' : Nat → Value} {i : Nat} (hi : i < k) (h : ∀ j, j < i → isAnc ops j i = true → env j = env' j) :
    opv (ops.getD i default) (pf ops a0 env i) = opv (ops.getD i default) (pf ops a0 env' i) := by
  have hlt : i < ops.size := Nat.lt_of_lt_of_le hi hc.kn
  have ho : ops[i]? = some (ops.getD i default) := by
    rw [Array.getElem?_eq_getElem hlt, Array.getD_eq_getD_getElem?, Array.getElem?_eq_getElem hlt]; rfl
  exact (look_pf hc hi ho h).opv

theorem Left_on {env env' : Nat → Value} {l : List Nat} (hl : ∀ i ∈ l, i < k) (hd : Down ops (· ∈ l)) (he : ∀ i ∈ l, env i = env' i) {j : Nat} (hj : j ∈ l) {s : Spec} {W : World}
    (h : Left ops a0 env j s W) : Left ops a0 env' j s W := by
  unfold Left at *
  rw [← opv_pf hc (hl j hj) (fun x _ hx => he x (anc_down hd (Nat.lt_of_lt_of_le (hl j hj) hc.kn) hj hx)), ← he j hj]
  exact h

theorem LeftP_on {env env' : Nat → Value} {l : List Nat} (hl : ∀ i ∈ l, i < k) (hd : Down ops (· ∈ l)) (he : ∀ i ∈ l, env i = env' i) {j : Nat} (hj : j ∈ l) {W : World}
    (h : LeftP Ps ops a0 env j W) : LeftP Ps ops a0 env' j W := by
  unfold LeftP at *
  rw [← opv_pf hc (hl j hj) (fun x _ hx => he x (anc_down hd (Nat.lt_of_lt_of_le (hl j hj) hc.kn) hj hx)), ← he j hj]
  exact h

theorem RelyAt_on {env env' : Nat → Value} {l : List Nat} (hl : ∀ i ∈ l, i < k) (hd : Down ops (· ∈ l)) (he : ∀ i ∈ l, env i = env' i) {i : Nat} (ha : ∀ j, j < i → isAnc ops j i = true → j ∈ l) {W : World}
    (h : RelyAt Ps ops R0 R1 m Ss W0 a0 env i W) : RelyAt Ps ops R0 R1 m Ss W0 a0 env' i W :=
  ⟨h.1, fun j s hs hj hji => Left_on hc hl hd he (ha j hj hji) (h.2.1 j s hs hj hji), fun hm j s hs hj hji => LeftP_on hc hl hd he (ha j hj hji) (h.2.2 hm j s hs hj hji)⟩

theorem Rec_on {env env' : Nat → Value} {l : List Nat} (hl : ∀ i ∈ l, i < k) (hd : Down ops (· ∈ l)) (he : ∀ i ∈ l, env i = env' i) {i : Nat} {o : Oper} (hi : i ∈ l) (ho : ops[i]? = some o)
    (h : Rec Ps P ops R0 R1 m Ss W0 a0 env i o) : Rec Ps P ops R0 R1 m Ss W0 a0 env' i o := by
  have hik : i < k := hl i hi
  have hanc : ∀ j, isAnc ops j i = true → j ∈ l := fun j hj => anc_down hd (Nat.lt_of_lt_of_le hik hc.kn) hi hj
  have hL : SameLook ops o (pf ops a0 env i) (pf ops a0 env' i) := look_pf hc hik ho (fun j _ hj => he j (hanc j hj))
  unfold Rec at *
  rw [← hL.wanted, ← hL.opv, ← he i hi, ← hL.exec (hc.sel i o ho)]
  cases hs : Ss.lookup i with
  | none =>
    simp only [hs] at h ⊢
    exact h.imp (fun x => ⟨x.1, by obtain ⟨W, hW, hr⟩ := x.2; exact ⟨W, RelyAt_on hc hl hd he (fun j _ => hanc j) hW, hr⟩⟩) id
  | some s =>
    simp only [hs] at h ⊢
    exact h

/-- **THE TEXT's WALK, AT AN ENVIRONMENT THAT AGREES WITH WHAT HAS COME.** -/
theorem along {Fin : Act → World → Prop} {env : Nat → Value} {l : List Nat} (hl : ∀ i ∈ l, i < k) (hd : Down ops (· ∈ l))
    (hrec : ∀ i ∈ l, ∀ o, ops[i]? = some o → Rec Ps P ops R0 R1 m Ss W0 a0 env i o)
    (htree : Tree Ps P ops R0 R1 m Ss Fin W0 (ops.toList.take k) 0 a0 [] []) :
    ∃ env', (∀ i ∈ l, env' i = env i) ∧ (∀ i o, i < k → ops[i]? = some o → Node Ps P ops R0 R1 m Ss W0 a0 env' i o) ∧
      (∀ W, R1 W0 W → (∀ j s, Ss.lookup j = some s → j < k → Left ops a0 env' j s W) → Fin (pf ops a0 env' k) W) := by
  have hlen : (ops.toList.take k).length = k := by have := hc.kn; simp [List.length_take]; omega
  have go : ∀ t, t ≤ k → ∃ env', (∀ i ∈ l, env' i = env i) ∧ (∀ i o, i < t → ops[i]? = some o → Node Ps P ops R0 R1 m Ss W0 a0 env' i o) ∧
      Tree Ps P ops R0 R1 m Ss Fin W0 ((ops.toList.take k).drop t) t (pf ops a0 env' t) (Fs ops Ss a0 env' t) (Gs Ps ops Ss a0 env' t) := by
    intro t
    induction t with
    | zero => exact fun _ => ⟨env, fun _ _ => rfl, fun i o hi => by omega, by simpa [Fs, Gs, pf, putAll] using htree⟩
    | succ t ih =>
      intro ht
      obtain ⟨env', h1, h2, h3⟩ := ih (by omega)
      have htk : t < k := by omega
      have hlt : t < ops.size := Nat.lt_of_lt_of_le htk hc.kn
      obtain ⟨o, ho⟩ : ∃ o, ops[t]? = some o := ⟨_, Array.getElem?_eq_getElem hlt⟩
      have hcons : (ops.toList.take k).drop t = o :: (ops.toList.take k).drop (t + 1) := by
        rw [List.drop_eq_getElem_cons (by omega)]
        congr 1
        have : (ops.toList.take k)[t]? = some o := by rw [List.getElem?_take, if_pos htk]; simpa using ho
        rw [List.getElem?_eq_getElem (by omega)] at this
        exact Option.some.inj this
      rw [hcons] at h3
      unfold Tree at h3
      have hdst : dstOf ops t = o.dst := dstOf_of ho
      -- in both cases: one value v, at which the environment is turned
      have step : ∀ v, (t ∈ l → v = env t) → (∀ e : Nat → Value, (∀ j, j < t → e j = env' j) → e t = v → Node Ps P ops R0 R1 m Ss W0 a0 e t o) →
          (∀ e : Nat → Value, (∀ j, j < t → e j = env' j) → e t = v → Tree Ps P ops R0 R1 m Ss Fin W0 ((ops.toList.take k).drop (t + 1)) (t + 1) (pf ops a0 e (t + 1)) (Fs ops Ss a0 e (t + 1)) (Gs Ps ops Ss a0 e (t + 1))) →
          ∃ env'', (∀ i ∈ l, env'' i = env i) ∧ (∀ i o, i < t + 1 → ops[i]? = some o → Node Ps P ops R0 R1 m Ss W0 a0 env'' i o) ∧
            Tree Ps P ops R0 R1 m Ss Fin W0 ((ops.toList.take k).drop (t + 1)) (t + 1) (pf ops a0 env'' (t + 1)) (Fs ops Ss a0 env'' (t + 1)) (Gs Ps ops Ss a0 env'' (t + 1)) := by
        intro v hv hN hT
        refine ⟨fun j => if j = t then v else env' j, ?_, ?_, ?_⟩
        · intro i hi
          by_cases e : i = t
          · subst e; simp only [if_pos]; exact hv hi
          · simp only [if_neg e]; exact h1 i hi
        · intro i o' hi ho'
          by_cases e : i = t
          · subst e; rw [ho] at ho'; cases ho'
            exact hN _ (fun j hj => if_neg (by omega)) (if_pos rfl)
          · exact Node_congr (fun j hj => (if_neg (by omega)).symm) (h2 i o' (by omega) ho')
        · exact hT _ (fun j hj => if_neg (by omega)) (if_pos rfl)
      cases hs : Ss.lookup t with
      | none =>
        simp only [hs] at h3
        obtain ⟨v, hv, hT⟩ := h3
        refine step v ?_ ?_ ?_
        · intro htl
          have hR := hrec t htl o ho
          have hanc : ∀ j, isAnc ops j t = true → j ∈ l := fun j hj => anc_down hd hlt htl hj
          have hL : SameLook ops o (pf ops a0 env t) (pf ops a0 env' t) := look_pf hc htk ho (fun j _ hj => (h1 j (hanc j hj)).symm)
          unfold Rec at hR
          simp only [hs] at hR
          rw [hL.wanted, hL.exec (hc.sel t o ho)] at hR
          rcases hv with ⟨hw, hv⟩ | ⟨hw, hv⟩
          · rcases hR with ⟨_, W, hW, hr⟩ | ⟨hw', _⟩
            · have := hv W (rely_of (RelyAt_on hc hl hd (fun i hi => (h1 i hi).symm) (fun j _ => hanc j) hW))
              rw [hr] at this
              injection this with e1 _
              injection e1 with e2
              exact e2.symm
            · rw [hw] at hw'; cases hw'
          · rcases hR with ⟨hw', _⟩ | ⟨_, hu⟩
            · rw [hw] at hw'; cases hw'
            · rw [hv, hu]
        · intro e he het
          have hp : pf ops a0 e t = pf ops a0 env' t := pf_congr he
          unfold Node
          simp only [hs]
          rw [hp, het]
          exact hv.imp (fun x => ⟨x.1, fun W hW => x.2 W (rely_of (RelyAt_congr he hW))⟩) id
        · intro e he het
          rw [pf_succ, hdst, het, pf_congr he]
          have : Fs ops Ss a0 e (t + 1) = Fs ops Ss a0 env' t := by
            show (match Ss.lookup t with | none => _ | some s => _) = _
            simp only [hs]
            exact Fs_congr he
          rw [this]
          have : Gs Ps ops Ss a0 e (t + 1) = Gs Ps ops Ss a0 env' t := by
            show (match Ss.lookup t with | none => _ | some s => _) = _
            simp only [hs]
            exact Gs_congr he
          rw [this]
          exact hT
      | some s =>
        simp only [hs] at h3
        obtain ⟨hw, ⟨v0, hv0⟩, hdoes, hst, hT⟩ := h3
        have key : ∀ v, s.pure (opv o (pf ops a0 env' t)) v → (t ∈ l → v = env t) → ∃ env'', (∀ i ∈ l, env'' i = env i) ∧ (∀ i o, i < t + 1 → ops[i]? = some o → Node Ps P ops R0 R1 m Ss W0 a0 env'' i o) ∧
            Tree Ps P ops R0 R1 m Ss Fin W0 ((ops.toList.take k).drop (t + 1)) (t + 1) (pf ops a0 env'' (t + 1)) (Fs ops Ss a0 env'' (t + 1)) (Gs Ps ops Ss a0 env'' (t + 1)) := by
          intro v hv hvl
          refine step v hvl ?_ ?_
          · intro e he het
            have hp : pf ops a0 e t = pf ops a0 env' t := pf_congr he
            unfold Node
            simp only [hs]
            rw [hp, het]
            exact ⟨hw, hv, fun W hW => hdoes W (rely_of (RelyAt_congr he hW)), hst⟩
          · intro e he het
            rw [pf_succ, hdst, het, pf_congr he]
            have : Fs ops Ss a0 e (t + 1) = (t, s.world (opv o (pf ops a0 env' t)) v) :: Fs ops Ss a0 env' t := by
              show (match Ss.lookup t with | none => _ | some s => _) = _
              simp only [hs]
              rw [Fs_congr he, pf_congr he, het, getD_of ho]
            rw [this]
            have : Gs Ps ops Ss a0 e (t + 1) = (t, Ps t (opv o (pf ops a0 env' t)) v) :: Gs Ps ops Ss a0 env' t := by
              show (match Ss.lookup t with | none => _ | some s => _) = _
              simp only [hs]
              rw [Gs_congr he, pf_congr he, het, getD_of ho]
            rw [this]
            exact hT v hv
        by_cases htl : t ∈ l
        · have hR := hrec t htl o ho
          have hanc : ∀ j, isAnc ops j t = true → j ∈ l := fun j hj => anc_down hd hlt htl hj
          have hL : SameLook ops o (pf ops a0 env t) (pf ops a0 env' t) := look_pf hc htk ho (fun j _ hj => (h1 j (hanc j hj)).symm)
          unfold Rec at hR
          simp only [hs] at hR
          rw [hL.opv] at hR
          exact key (env t) hR (fun _ => rfl)
        · exact key v0 hv0 (fun h => absurd h htl)
  obtain ⟨env', h1, h2, h3⟩ := go k (Nat.le_refl _)
  refine ⟨env', h1, h2, fun W hW hF => ?_⟩
  rw [List.drop_of_length_le (by omega)] at h3
  unfold Tree at h3
  exact h3 W hW (fun f hf => by
    obtain ⟨j, s, hj, hs, rfl⟩ := mem_Fs.1 hf
    exact hF j s hs hj)
end

section
variable {step : Nat → (Act → World → Prop) → Act → World → Prop} {P : Program} {ops : Array Oper} {Qn : Act → World → Prop} {Ps : Pres} {R0 R1 : World → World → Prop} {m : Option Nat} {Ss : List (Nat × Spec)} {W0 : World} {a0 : Act} {k : Nat}

theorem any_run (hR : Rels R0 R1) (hc : Chk ops k) (hmono : ∀ i (K K' : Act → World → Prop) a w, (∀ a w, K a w → K' a w) → step i K a w → step i K' a w)
    (hdoes : ∀ (i : Nat) (o : Oper) (K : Act → World → Prop) (a : Act) (W : World) (R : Value → World → Prop), ops[i]? = some o → Region.wanted o (yielded ops a.tmps) = true → Does P o a.eval W R → (∀ v W', R v W' → K (a.put o.dst v) W') → step i K a W)
    (hskip : ∀ (i : Nat) (o : Oper) (K : Act → World → Prop) (a : Act) (W : World), ops[i]? = some o → Region.wanted o (yielded ops a.tmps) = false → K (a.put o.dst undef) W → step i K a W)
    (htree : Tree Ps P ops R0 R1 m Ss (Seq step Qn (List.range' k (ops.size - k))) W0 (ops.toList.take k) 0 a0 [] []) :
    ∀ (fuel : Nat) (l : List Nat) (env : Nat → Value) (W : World), l.length + fuel = ops.size → l.Nodup → (∀ i ∈ l, i < k) → Down ops (· ∈ l) →
      (∀ i ∈ l, ∀ o, ops[i]? = some o → Rec Ps P ops R0 R1 m Ss W0 a0 env i o) → (∀ j s, Ss.lookup j = some s → j ∈ l → Left ops a0 env j s W) →
      R1 W0 W → ((∀ i, m = some i → i ∉ l) → R0 W0 W ∧ ∀ j s, Ss.lookup j = some s → j ∈ l → LeftP Ps ops a0 env j W) → Any step ops Qn fuel (lst ops.size l) (putAll ops env a0 l) W := by
  intro fuel
  induction fuel with
  | zero =>
    intro l env W hlen hnd hl hd hrec hleft hext _
    have hk : k = ops.size := by
      have h1 := len_le hnd hl
      have := hc.kn; omega
    have hall := all_in hnd hl (by omega)
    obtain ⟨env', he, _, hfin⟩ := along (P := P) hc hl hd hrec htree
    have hf := hfin W hext (fun j s hs hj => Left_on hc hl hd (fun i hi => (he i hi).symm) (hall j hj) (hleft j s hs (hall j hj)))
    have ea : putAll ops env a0 l = pf ops a0 env' k := act_ext (by rw [putAll_defers, putAll_defers]) fun t =>
      agree t (fun i hi => ⟨fun h => by simpa using hl i h, fun h => hall i (by simpa using h)⟩) (fun i hi _ => (he i hi).symm) (fun i j hi hj => hc.dist i j (hl i hi) (hl j hj) t)
    rw [lst_firsts (k := k) (fun i => ⟨hl i, hall i⟩), ea, hk]
    rw [show ops.size - k = 0 from by omega] at hf
    rw [hk] at hf
    exact any_tail hc hmono 0 ops.size _ _ (by omega) (by omega) hf
  | succ fuel ih =>
    intro l env W hlen hnd hl hd hrec hleft hext hnil
    obtain ⟨env', he, hnode, hfin⟩ := along (P := P) hc hl hd hrec htree
    have hes : ∀ i ∈ l, env i = env' i := fun i hi => (he i hi).symm
    by_cases hfull : k ≤ l.length
    · have hall := all_in hnd hl hfull
      have hk : l.length = k := by have := len_le hnd hl; omega
      have hf := hfin W hext (fun j s hs hj => Left_on hc hl hd hes (hall j hj) (hleft j s hs (hall j hj)))
      have ea : putAll ops env a0 l = pf ops a0 env' k := act_ext (by rw [putAll_defers, putAll_defers]) fun t =>
        agree t (fun i hi => ⟨fun h => by simpa using hl i h, fun h => hall i (by simpa using h)⟩) (fun i hi _ => hes i hi) (fun i j hi hj => hc.dist i j (hl i hi) (hl j hj) t)
      rw [lst_firsts (k := k) (fun i => ⟨hl i, hall i⟩), ea]
      have e : fuel + 1 = ops.size - k := by omega
      rw [e]
      exact any_tail hc hmono (ops.size - k) k _ _ (by have := hc.kn; omega) (Nat.le_refl _) hf
    · -- one more of the first k comes up
      have hex : ∃ i, i < k ∧ i ∉ l ∧ ∀ j, j < i → j ∈ l := by
        have h0 : ∃ i, i < k ∧ i ∉ l := Classical.byContradiction fun hno => by
          have hall : ∀ i, i < k → i ∈ l := fun i hi => Classical.byContradiction fun h => hno ⟨i, hi, h⟩
          have := List.Nodup.length_le_of_subset (l₁ := List.range k) (l₂ := l) List.nodup_range (fun x hx => hall x (by simpa using hx))
          simp at this; omega
        obtain ⟨i, hi, hil⟩ := h0
        induction i using Nat.strongRecOn with
        | _ i ihh =>
          by_cases hj : ∃ j, j < i ∧ j ∉ l
          · obtain ⟨j, hji, hjl⟩ := hj
            exact ihh j hji (by omega) hjl
          · exact ⟨i, hi, hil, fun j hji => Classical.byContradiction fun h => hj ⟨j, hji, h⟩⟩
      refine ⟨fun e => ?_, fun i hi => ?_⟩
      · obtain ⟨i, hi, hil, hbelow⟩ := hex
        have : i ∈ Region.ready .any ops (lst ops.size l) := mem_ready.2 ⟨Nat.lt_of_lt_of_le hi hc.kn, hil, fun o ho e he hb => by
          have := hc.lt i o ho e he hb
          exact ⟨hbelow _ this, by have := hc.kn; omega⟩⟩
        rw [e] at this; cases this
      · obtain ⟨hin, hil, hready⟩ := mem_ready.1 hi
        obtain ⟨o, ho⟩ : ∃ o, ops[i]? = some o := ⟨_, Array.getElem?_eq_getElem hin⟩
        have hanc : ∀ j, isAnc ops j i = true → j ≠ i → j ∈ l := fun j hj hne => anc_ready hd ho (fun e he hb => (hready o ho e he hb).1) hj hne
        have hik : i < k := Classical.byContradiction fun hge => by
          obtain ⟨j, hj, hjl, _⟩ := hex
          exact hjl (hanc j (hc.tail i (by omega) hin j hj) (by omega))
        have hN := hnode i o hik ho
        -- the frames look alike
        have hL : SameLook ops o (putAll ops env a0 l) (pf ops a0 env' i) := by
          intro t ht
          refine agree t ?_ (fun j hj _ => hes j hj) (fun x y hx hy => hc.dist x y (hl x hx) (hl y hy) t)
          intro j hd'
          by_cases hji : j = i
          · subst hji; simp [hil]
          · constructor
            · intro hjl
              rcases hc.look i o hik ho t ht j (hl j hjl) hd' (fun e => hji e.symm) with h | h
              · simpa using h.1
              · exact absurd (anc_down hd (Nat.lt_of_lt_of_le (hl j hjl) hc.kn) hjl h.2) hil
            · intro hjr
              have hjr' : j < i := by simpa using hjr
              rcases hc.look i o hik ho t ht j (by omega) hd' (fun e => hji e.symm) with h | h
              · exact hanc j h.2 hji
              · omega
        have hrely : RelyAt Ps ops R0 R1 m Ss W0 a0 env' i W := by
          refine ⟨?_, fun j s hs hj ha => Left_on hc hl hd hes (hanc j ha (by omega)) (hleft j s hs (hanc j ha (by omega))), fun hm j s hs hj ha =>
            LeftP_on hc hl hd hes (hanc j ha (by omega)) ((hnil (fun x hx => by rw [hm] at hx; cases hx; exact hil)).2 j s hs (hanc j ha (by omega)))⟩
          unfold relRely
          by_cases hm : comesTo ops m i = true
          · rw [if_pos hm]
            refine (hnil fun x hx hxl => ?_).1
            unfold comesTo at hm
            rw [hx] at hm
            simp only [Bool.or_eq_true, decide_eq_true_eq] at hm
            rcases hm with rfl | hm
            · exact hil hxl
            · exact hil (anc_down hd (Nat.lt_of_lt_of_le (hl x hxl) hc.kn) hxl hm)
          · rw [if_neg hm]; exact hext
        have ho' : dstOf ops i = o.dst := dstOf_of ho
        have hnd' : (l ++ [i]).Nodup := by
          rw [List.nodup_append]
          refine ⟨hnd, by simp, fun x hx y hy => ?_⟩
          have : y = i := by simpa using hy
          subst this
          exact fun e => hil (e ▸ hx)
        have hl' : ∀ x ∈ l ++ [i], x < k := fun x hx => by
          rcases List.mem_append.1 hx with h | h
          · exact hl x h
          · have : x = i := by simpa using h
            omega
        have hd' : Down ops (· ∈ l ++ [i]) := by
          intro x ox hox hx e he hb
          rcases List.mem_append.1 hx with h | h
          · exact List.mem_append_left _ (hd x ox hox h e he hb)
          · have : x = i := by simpa using h
            subst this
            rw [ho] at hox; cases hox
            exact List.mem_append_left _ (hready o ho e he hb).1
        have hlen' : (l ++ [i]).length + fuel = ops.size := by simp; omega
        -- one more has come, with the value v, in the world W'
        have close : ∀ v W', (∀ e : Nat → Value, (∀ j, j < i → e j = env' j) → e i = v → Rec Ps P ops R0 R1 m Ss W0 a0 e i o) →
            (∀ e : Nat → Value, (∀ j, j ∈ l → e j = env' j) → (∀ j, j < i → e j = env' j) → e i = v → ∀ j s, Ss.lookup j = some s → j ∈ l ++ [i] → Left ops a0 e j s W') → R1 W0 W' → ((∀ x, m = some x → x ∉ l ++ [i]) → R0 W0 W') →
            ((∀ x, m = some x → x ∉ l ++ [i]) → ∀ e : Nat → Value, (∀ j, j ∈ l → e j = env' j) → (∀ j, j < i → e j = env' j) → e i = v → ∀ j s, Ss.lookup j = some s → j ∈ l ++ [i] → LeftP Ps ops a0 e j W') →
            Any step ops Qn fuel ((lst ops.size l).setIfInBounds i true) ((putAll ops env a0 l).put o.dst v) W' := by
          intro v W' hR hLf hE hE0 hLp
          have e1 : putAll ops (fun j => if j = i then v else env' j) a0 (l ++ [i]) = (putAll ops env a0 l).put o.dst v := by
            rw [putAll_snoc, ho', if_pos rfl]
            congr 1
            exact putAll_congr fun j hj => by
              have : j ≠ i := fun e => hil (e ▸ hj)
              rw [if_neg this]; exact he j hj
          rw [← e1, ← lst_snoc]
          have hag : ∀ j ∈ l, env j = (fun j => if j = i then v else env' j) j := fun j hj => by
            have : j ≠ i := fun e => hil (e ▸ hj)
            simp only [if_neg this]; exact hes j hj
          refine ih (l ++ [i]) _ W' hlen' hnd' hl' hd' ?_ ?_ hE (fun hno => ⟨hE0 hno, hLp hno _ (fun j hj => if_neg (fun (e : j = i) => hil (by rw [← e]; exact hj))) (fun j hj => if_neg (by omega)) (if_pos rfl)⟩)
          · intro x hx ox hox
            rcases List.mem_append.1 hx with h | h
            · exact Rec_on hc hl hd hag h hox (hrec x h ox hox)
            · have : x = i := by simpa using h
              subst this
              rw [ho] at hox; cases hox
              exact hR _ (fun j hj => if_neg (by omega)) (if_pos rfl)
          · exact hLf _ (fun j hj => if_neg (fun (e : j = i) => hil (by rw [← e]; exact hj))) (fun j hj => if_neg (by omega)) (if_pos rfl)
        have old : ∀ (e : Nat → Value), (∀ j, j ∈ l → e j = env' j) → ∀ j s W', Ss.lookup j = some s → j ∈ l → relNot R0 R1 m j W W' → Left ops a0 e j s W' := by
          intro e hee j s W' hs hj hE
          have hNj : ∃ oj, ops[j]? = some oj := ⟨_, Array.getElem?_eq_getElem (Nat.lt_of_lt_of_le (hl j hj) hc.kn)⟩
          obtain ⟨oj, hoj⟩ := hNj
          have hst := hnode j oj (hl j hj) hoj
          unfold Node at hst
          simp only [hs] at hst
          have h1 : Left ops a0 env' j s W := Left_on hc hl hd hes hj (hleft j s hs hj)
          refine Left_on hc hl hd (fun x hx => (hee x hx).symm) hj ?_
          unfold Left at h1 ⊢
          rw [getD_of hoj] at h1 ⊢
          exact hst.2.2.2.1 _ W W' h1 hE
        have oldP : (∀ x, m = some x → x ∉ l) → ∀ (e : Nat → Value), (∀ j, j ∈ l → e j = env' j) → ∀ j s W', Ss.lookup j = some s → j ∈ l → R0 W W' → LeftP Ps ops a0 e j W' := by
          intro hno e hee j s W' hs hj hE
          have hNj : ∃ oj, ops[j]? = some oj := ⟨_, Array.getElem?_eq_getElem (Nat.lt_of_lt_of_le (hl j hj) hc.kn)⟩
          obtain ⟨oj, hoj⟩ := hNj
          have hst := hnode j oj (hl j hj) hoj
          unfold Node at hst
          simp only [hs] at hst
          have h1 : LeftP Ps ops a0 env' j W := LeftP_on hc hl hd hes hj ((hnil hno).2 j s hs hj)
          refine LeftP_on hc hl hd (fun x hx => (hee x hx).symm) hj ?_
          unfold LeftP at h1 ⊢
          rw [getD_of hoj] at h1 ⊢
          exact hst.2.2.2.2 _ W W' h1 hE
        unfold Node at hN
        cases hs : Ss.lookup i with
        | none =>
          simp only [hs] at hN
          have same : ∀ v, v = env' i → ((Region.wanted o (yielded ops (pf ops a0 env' i).tmps) = true ∧ ∃ W, RelyAt Ps ops R0 R1 m Ss W0 a0 env' i W ∧ (execOp (pf ops a0 env' i).eval o).run P W = .ok (.value (env' i)) W) ∨
              (Region.wanted o (yielded ops (pf ops a0 env' i).tmps) = false ∧ env' i = undef)) → Any step ops Qn fuel ((lst ops.size l).setIfInBounds i true) ((putAll ops env a0 l).put o.dst v) W := by
            intro v hv hcase
            refine close v W ?_ ?_ hext ?_ ?_
            · intro e hee hei
              have hp : pf ops a0 e i = pf ops a0 env' i := pf_congr hee
              unfold Rec
              simp only [hs]
              rw [hp, hei, hv]
              exact hcase.imp (fun x => ⟨x.1, by obtain ⟨Wx, h1, h2⟩ := x.2; exact ⟨Wx, RelyAt_congr (fun j hj => (hee j hj).symm) h1, h2⟩⟩) id
            · intro e hel hee hei j s hjs hj
              rcases List.mem_append.1 hj with h | h
              · exact old e hel j s W hjs h (hR.notRefl j W)
              · have : j = i := by simpa using h
                subst this
                rw [hs] at hjs; cases hjs
            · intro hno
              exact (hnil (fun x hx hxl => hno x hx (List.mem_append_left _ hxl))).1
            · intro hno e hel hee hei j s hjs hj
              rcases List.mem_append.1 hj with h | h
              · exact oldP (fun x hx hxl => hno x hx (List.mem_append_left _ hxl)) e hel j s W hjs h (hR.refl W)
              · have : j = i := by simpa using h
                subst this
                rw [hs] at hjs; cases hjs
          rcases hN with ⟨hw, hrun⟩ | ⟨hw, hu⟩
          · refine hdoes i o _ _ W (fun v W' => v = env' i ∧ W' = W) ho (by rw [hL.wanted]; exact hw) ?_ ?_
            · unfold Does
              rw [hL.exec (hc.sel i o ho), hrun W hrely]
              exact ⟨rfl, rfl⟩
            · rintro v W' ⟨hv, rfl⟩
              exact same v hv (.inl ⟨hw, _, hrely, hrun _ hrely⟩)
          · refine hskip i o _ _ W ho (by rw [hL.wanted]; exact hw) ?_
            exact same undef hu.symm (.inr ⟨hw, hu⟩)
        | some s =>
          simp only [hs] at hN
          obtain ⟨hw, _, hdo, hst⟩ := hN
          have hdo' := hdo W hrely
          have hdo'' : Does P o (putAll ops env a0 l).eval W (fun v W' => s.pure (opv o (pf ops a0 env' i)) v ∧ s.world (opv o (pf ops a0 env' i)) v W' ∧ relOf R0 R1 m i W W' ∧ Ps i (opv o (pf ops a0 env' i)) v W') := by
            unfold Does at hdo' ⊢
            rw [hL.exec (hc.sel i o ho)]
            exact hdo'
          refine hdoes i o _ _ W _ ho (by rw [hL.wanted]; exact hw) hdo'' ?_
          rintro v W' ⟨hpure, hworld, hE, hpre⟩
          refine close v W' ?_ ?_ ?_ ?_ ?_
          · intro e hee hei
            have hp : pf ops a0 e i = pf ops a0 env' i := pf_congr hee
            unfold Rec
            simp only [hs]
            rw [hp, hei]
            exact hpure
          · intro e hel hee hei j s' hjs hj
            rcases List.mem_append.1 hj with h | h
            · refine old e hel j s' W' hjs h ?_
              have hji : j ≠ i := fun x => hil (x ▸ h)
              unfold relOf at hE
              unfold relNot
              by_cases hm : m = some i
              · rw [if_pos hm] at hE
                rw [if_neg (by rw [hm]; exact fun x => hji (Option.some.inj x).symm)]
                exact hE
              · rw [if_neg hm] at hE
                split
                · exact hE
                · exact hR.sub hE
            · have : j = i := by simpa using h
              subst this
              rw [hs] at hjs; cases hjs
              unfold Left
              rw [getD_of ho, pf_congr hee, hei]
              exact hworld
          · refine hR.trans1 hext ?_
            unfold relOf at hE
            split at hE
            · exact hE
            · exact hR.sub hE
          · intro hno
            have hm : m ≠ some i := fun hm => hno i hm (by simp)
            unfold relOf at hE
            rw [if_neg hm] at hE
            exact hR.trans0 (hnil (fun x hx hxl => hno x hx (List.mem_append_left _ hxl))).1 hE
          · intro hno e hel hee hei j s' hjs hj
            have hm : m ≠ some i := fun hm => hno i hm (by simp)
            unfold relOf at hE
            rw [if_neg hm] at hE
            rcases List.mem_append.1 hj with h | h
            · exact oldP (fun x hx hxl => hno x hx (List.mem_append_left _ hxl)) e hel j s' W' hjs h hE
            · have : j = i := by simpa using h
              subst this
              unfold LeftP
              rw [getD_of ho, pf_congr hee, hei]
              exact hpre
end

theorem any_start {step : Nat → (Act → World → Prop) → Act → World → Prop} {P : Program} {ops : Array Oper} {Qn : Act → World → Prop} {Ps : Pres} {R0 R1 : World → World → Prop} {m : Option Nat} {Ss : List (Nat × Spec)} {W0 W : World} {a0 : Act} {k : Nat}
    (hR : Rels R0 R1) (hc : chk ops k = true) (hmono : ∀ i (K K' : Act → World → Prop) a w, (∀ a w, K a w → K' a w) → step i K a w → step i K' a w)
    (hdoes : ∀ (i : Nat) (o : Oper) (K : Act → World → Prop) (a : Act) (W : World) (R : Value → World → Prop), ops[i]? = some o → Region.wanted o (yielded ops a.tmps) = true → Does P o a.eval W R → (∀ v W', R v W' → K (a.put o.dst v) W') → step i K a W)
    (hskip : ∀ (i : Nat) (o : Oper) (K : Act → World → Prop) (a : Act) (W : World), ops[i]? = some o → Region.wanted o (yielded ops a.tmps) = false → K (a.put o.dst undef) W → step i K a W)
    (hW : R0 W0 W)
    (htree : Tree Ps P ops R0 R1 m Ss (Seq step Qn (List.range' k (ops.size - k))) W0 (ops.toList.take k) 0 a0 [] []) :
    Any step ops Qn ops.size (Array.replicate ops.size false) a0 W :=
  any_run hR (chk_spec hc) hmono hdoes hskip htree ops.size [] (fun _ => undef) W (by simp) List.nodup_nil (by simp) (fun i o _ h => by cases h) (by simp) (by simp) (hR.sub hW) (fun _ => ⟨hW, by simp⟩)

/-- **A REGION THAT DRAWS ITS ORDER, WALKED ONCE.** The first k operations in whatever order their edges allow; the rest, whose order is forced, behind them. -/
theorem wp_region_rels {R0 R1 : World → World → Prop} (hR : Rels R0 R1) {Ps : Pres} {P : Program} {id : Nat} {ops : List Oper} {Q : Exit → Act → World → Prop} {a : Act} {w : World} (hdr : R0 w w.drew) (k : Nat) (m : Option Nat) (Ss : List (Nat × Spec))
    (hm : P.follows .mixedOrders = true) (hc : chk ops.toArray k = true)
    (h : Tree Ps P ops.toArray R0 R1 m Ss (fun a w => wpList P ops.toArray Q (ops.drop k) a w) w (ops.take k) 0 a [] []) : (Code.region id ops.toArray true).wp P Q a w := by
  refine wp_region_any hm (any_eq _ _ _ _ ?_)
  refine any_start (Ps := Ps) (P := P) (R0 := R0) (R1 := R1) (m := m) (Ss := Ss) (W0 := w) hR hc (fun i K K' a w h hs => wpOp_mono h hs) ?_ ?_ hdr ?_
  · intro i o K a W R ho hw hd hK
    unfold wpOp
    simp only [ho]
    rw [if_pos hw]
    exact .inl (does_wp hd hK)
  · intro i o K a W ho hw hK
    unfold wpOp
    simp only [ho]
    rw [if_neg (by rw [hw]; simp)]
    exact hK
  · have e : (fun a w => wpList P ops.toArray Q (ops.drop k) a w) = Seq (wpOp P ops.toArray Q) (Q .normal) (List.range' k (ops.toArray.size - k)) := by
      funext a w
      rw [seq_eq]
      have hkn := (chk_spec hc).kn
      have hlen : ops.toArray.size - k = (ops.drop k).length := by simp
      rw [hlen, wpOps_eq_wpList (ops.drop k) k (fun j => by simp)]
    rw [← e]
    exact h


section
variable {P : Program} {ops : Array Oper} {R0 R1 : World → World → Prop} {m : Option Nat} {Ss : List (Nat × Spec)} {Fin : Act → World → Prop} {W0 : World} {o : Oper} {rest : List Oper} {i : Nat} {a : Act} {F G : Facts} {Ps : Pres}

/-- An operation that comes ahead of m. -/
theorem tree_detA (ha : comesTo ops m i = true) (hs : Ss.lookup i = none) (v : Value) (hw : Region.wanted o (yielded ops a.tmps) = true)
    (hr : ∀ W : World, R0 W0 W → (execOp a.eval o).run P W = .ok (.value v) W)
    (ht : Tree Ps P ops R0 R1 m Ss Fin W0 rest (i + 1) (a.put o.dst v) F G) : Tree Ps P ops R0 R1 m Ss Fin W0 (o :: rest) i a F G := by
  unfold Tree
  simp only [hs]
  refine ⟨v, .inl ⟨hw, fun W hW => hr W ?_⟩, ht⟩
  have := hW.1
  unfold relRely at this
  rwa [if_pos ha] at this

theorem tree_detB (hsub : ∀ {a b}, R0 a b → R1 a b) (hs : Ss.lookup i = none) (v : Value) (hw : Region.wanted o (yielded ops a.tmps) = true)
    (hr : ∀ W : World, R1 W0 W → (execOp a.eval o).run P W = .ok (.value v) W)
    (ht : Tree Ps P ops R0 R1 m Ss Fin W0 rest (i + 1) (a.put o.dst v) F G) : Tree Ps P ops R0 R1 m Ss Fin W0 (o :: rest) i a F G := by
  unfold Tree
  simp only [hs]
  refine ⟨v, .inl ⟨hw, fun W hW => hr W ?_⟩, ht⟩
  have := hW.1
  unfold relRely at this
  split at this
  · exact hsub this
  · exact this

theorem tree_skip (hs : Ss.lookup i = none) (hw : Region.wanted o (yielded ops a.tmps) = false)
    (ht : Tree Ps P ops R0 R1 m Ss Fin W0 rest (i + 1) (a.put o.dst undef) F G) : Tree Ps P ops R0 R1 m Ss Fin W0 (o :: rest) i a F G := by
  unfold Tree
  simp only [hs]
  exact ⟨undef, .inr ⟨hw, rfl⟩, ht⟩

/-- An operation of whose value something is known, told by what it relies upon. -/
theorem tree_some (s : Spec) (hs : Ss.lookup i = some s) (hw : Region.wanted o (yielded ops a.tmps) = true) (hex : ∃ v, s.pure (opv o a) v)
    (hdo : ∀ W : World, relRely ops R0 R1 m i W0 W → (∀ f ∈ F, isAnc ops f.1 i = true → f.2 W) → Does P o a.eval W (fun v W' => s.pure (opv o a) v ∧ s.world (opv o a) v W' ∧ relOf R0 R1 m i W W'))
    (hst : ∀ v W W', s.world (opv o a) v W → relNot R0 R1 m i W W' → s.world (opv o a) v W')
    (ht : ∀ v, s.pure (opv o a) v → Tree Ps P ops R0 R1 m Ss Fin W0 rest (i + 1) (a.put o.dst v) ((i, s.world (opv o a) v) :: F) ((i, Ps i (opv o a) v) :: G)) (hps : ∀ x v W, Ps i x v W := by intro _ _ _; exact True.intro) : Tree Ps P ops R0 R1 m Ss Fin W0 (o :: rest) i a F G := by
  unfold Tree
  simp only [hs]
  refine ⟨hw, hex, fun W hW => ?_, ⟨hst, fun v' _ W' _ _ => hps _ _ _⟩, ht⟩
  have := hdo W hW.1 hW.2.1
  unfold Does at this ⊢
  split at this
  · exact ⟨this.1, this.2.1, this.2.2, hps _ _ _⟩
  · exact ⟨this.1, this.2.1, this.2.2, hps _ _ _⟩
  · exact this.mono fun e w' ⟨v, h1, h2, h3, h4⟩ => ⟨v, h1, h2, h3, h4, hps _ _ _⟩
  · exact this.elim
end

end Go.RG.R2

namespace Go.Proofs.Ytoibfafmnaooaaa
open Go.RowKit Go.RG Go.SL

/-- **append, in two cases.** -/
theorem run_append_two {P : Program} {w : World} {t e : TypeId} {z : Value} {size bytes : Nat} (hT : SliceT P t e z size bytes) (ty : TypeId) {base : Nat} {v : Value} {n : Nat} {xs : List Value} (hown : w.ownsRow base e size v n xs)
    {src : Value} {k : Nat} {news : List Value} (hsrc : SlAt size w src k news) (h1 : ∀ u ∈ news, u.oneCell' = true) (hb : (n + k) * bytes ≤ 140737488355328) (h63 : n + k ≤ 9223372036854775807) (hbase : base ≤ w.heap.size) :
    ∃ v' w', (Builtin.append_ #[t, t] ty #[v, src]).run P w = .ok v' w' ∧ w'.ownsRow base e size v' (n + k) (xs ++ news) ∧
      ((∃ g cap, v = .slice (some ⟨g, 0, none⟩) n cap ∧ n + k ≤ cap ∧ v' = .slice (some ⟨g, 0, none⟩) (n + k) cap ∧ Ext [g] w w') ∨ (Ext [] w w' ∧ v'.ownBlock = some w.heap.size) ∨ (Ext [] w w' ∧ v' = v)) := by
  obtain ⟨i, hi, hz, hs, hby⟩ := info_parts hT.info
  obtain ⟨o, c, rfl, hl, hn, hc⟩ := hsrc.news
  cases o with
  | none =>
    obtain ⟨rfl, rfl⟩ := hn rfl
    have : news = [] := List.eq_nil_of_length_eq_zero (by simpa using hl)
    subst this
    have hrun := run_append_owned_none (P := P) w base t ty e i size hT.und hi v n xs hown
    exact ⟨v, w, hrun, by simpa using hown, .inr (.inr ⟨Ext.refl _ _, rfl⟩)⟩
  | some a =>
    obtain ⟨v', w', h, h2, h3, _, h4⟩ := run_append_own_at (P := P) w base t ty e i z size bytes hT.und hi hz hs hby hT.cells hT.pos v n xs hown a k c news hl (hc a rfl) h1 (by simp only [maxLen]; omega) hb hbase
    refine ⟨v', w', h, h2, ?_⟩
    rcases hown.2 with ⟨rfl, rfl⟩ | ⟨g, cap, cur, rfl, hbg, hg, hnc, hcm, hcs, htake⟩
    · have hE : Ext [] w w' := ⟨h3.os, h3.tape, h3.output, h3.size, fun b hb _ => h3.block b hb (fun e => by cases e)⟩
      rcases h4 with h4 | h4
      · refine .inr (.inr ⟨hE, ?_⟩)
        obtain ⟨h5, ⟨h6, h7⟩ | ⟨g, cap, cur, rfl, _⟩⟩ := h2
        · exact h6
        · cases h4
      · exact .inr (.inl ⟨hE, h4⟩)
    · subst hs
      by_cases hroom : n + k ≤ cap
      · left
        have hfit : n * i.size + news.length ≤ cur.size := by rw [hl, hcs, ← Nat.add_mul]; exact Nat.mul_le_mul_right _ hroom
        have hr := run_append_room (P := P) w t ty e i hT.und hi g n cap cur hg a k c news hl (hc a rfl) h1 hroom hfit
        rw [hr] at h
        injection h with e1 e2
        exact ⟨g, cap, rfl, hroom, e1.symm, ⟨h3.os, h3.tape, h3.output, h3.size, fun b hb hm => h3.block b hb (fun e => hm (by simpa [Value.ownBlock] using e))⟩⟩
      · right; left
        have hr := run_append_grow (P := P) w t ty e i z hT.und hi hz ⟨g, 0, none⟩ n cap xs hown.1 (hown.cells (g := g) rfl) a k c news hl (hc a rfl) (by omega) (by omega) (growslice_fits (by omega) (by subst hby; exact hb))
        rw [hr] at h
        injection h with e1 e2
        subst e1 e2
        exact ⟨Ext.of_below ((Below.refl _ _).drew.alloc (Nat.le_refl _) _), rfl⟩

theorem does_append_two {P : Program} {w : World} {t e : TypeId} {z : Value} {size bytes : Nat} (hT : SliceT P t e z size bytes) {o : Oper} {ρ : Operand → Value} {s x : Operand}
    (hop : o.op = Op.call { callee := Callee.builtin Builtin.append, args := #[s, x], argTypes := #[t, t] }) {base : Nat} {v : Value} {n : Nat} {xs : List Value} (hs : ρ s = v) (hown : w.ownsRow base e size v n xs)
    {src : Value} {k : Nat} {news : List Value} (hx : ρ x = src) (hsrc : SlAt size w src k news) (h1 : ∀ u ∈ news, u.oneCell' = true) (hb : (n + k) * bytes ≤ 140737488355328) (h63 : n + k ≤ 9223372036854775807) (hbase : base ≤ w.heap.size) :
    Does P o ρ w (fun v' w' => w'.ownsRow base e size v' (n + k) (xs ++ news) ∧
      ((∃ g cap, v = .slice (some ⟨g, 0, none⟩) n cap ∧ n + k ≤ cap ∧ v' = .slice (some ⟨g, 0, none⟩) (n + k) cap ∧ Ext [g] w w') ∨ (Ext [] w w' ∧ v'.ownBlock = some w.heap.size) ∨ (Ext [] w w' ∧ v' = v))) := by
  obtain ⟨v', w', hrun, h2, h3⟩ := run_append_two (P := P) hT o.type hown hsrc h1 hb h63 hbase
  refine does_value (W' := w') v' ?_ ⟨h2, h3⟩
  simp [execOp, hop, resolve, invoke, builtin, hs, hx, hrun, Result.andThen]

/-- Nothing has turned but what lies in Bs, and the blocks Ms of a slice that one operation appends to, which then hold what append leaves. -/
def ApR (Ms : List Nat) (Good : World → Prop) (Bs : List Nat) (a b : World) : Prop :=
  Ext (Ms ++ Bs) a b ∧ ∀ x ∈ Ms, x < a.heap.size → x ∉ Bs → (b.heap[x]? = a.heap[x]? ∨ Good b)

theorem ApR.trans {Ms : List Nat} {Good : World → Prop} {Bs : List Nat} (hG : ∀ x a b, x ∈ Ms → Good a → b.heap[x]? = a.heap[x]? → Good b) {a b c : World} (h : ApR Ms Good Bs a b) (k : ApR Ms Good Bs b c) : ApR Ms Good Bs a c := by
  refine ⟨h.1.trans k.1, fun x hx hlt hn => ?_⟩
  rcases k.2 x hx (Nat.lt_of_lt_of_le hlt h.1.size) hn with e | e
  · rcases h.2 x hx hlt hn with e' | e'
    · exact .inl (e.trans e')
    · exact .inr (hG x _ _ hx e' e)
  · exact .inr e

theorem ApR.rels {Ms : List Nat} {Good : World → Prop} (hG : ∀ x a b, x ∈ Ms → Good a → b.heap[x]? = a.heap[x]? → Good b) (Bs : List Nat) : Rels (ApR Ms Good []) (ApR Ms Good Bs) :=
  ⟨fun _ => ⟨Ext.refl _ _, fun _ _ _ _ => .inl rfl⟩, ApR.trans hG, ApR.trans hG, fun h => ⟨h.1.more (by simp; exact fun x hx => .inl hx), fun x hx hlt _ => h.2 x hx hlt (by simp)⟩⟩

theorem ApR.of_ext {Ms : List Nat} {Good : World → Prop} {Bs : List Nat} {a b : World} (h : Ext [] a b) : ApR Ms Good Bs a b :=
  ⟨h.nil, fun x _ hlt _ => .inl (h.block x hlt (by simp))⟩
theorem ApR.ext {Ms : List Nat} {Good : World → Prop} {a b : World} (h : ApR Ms Good [] a b) : Ext Ms a b := h.1.more (by simp)
theorem ApR.cells {Ms : List Nat} {Good : World → Prop} {a b : World} (h : ApR Ms Good [] a b) : ∀ k off, k < a.heap.size → k ∉ Ms → b.cell? ⟨k, off, none⟩ = a.cell? ⟨k, off, none⟩ :=
  fun k off hk hm => h.ext.cell k off hk hm

/-- **A REGION IN WHICH ONE OPERATION APPENDS AND ANOTHER ONE (m) STORES.** -/
theorem wp_region_ap {P : Program} {id : Nat} {ops : List Oper} {Q : Exit → Act → World → Prop} {a : Act} {w : World} (k : Nat) (Ms : List Nat) (Good : World → Prop) (Bs : List Nat) (m : Option Nat) (Ss : List (Nat × RG.Spec))
    (hG : ∀ x a b, x ∈ Ms → Good a → b.heap[x]? = a.heap[x]? → Good b)
    (hm : P.follows .mixedOrders = true) (hc : chk ops.toArray k = true)
    (h : R2.Tree noPre P ops.toArray (ApR Ms Good []) (ApR Ms Good Bs) m Ss (fun a w => wpList P ops.toArray Q (ops.drop k) a w) w (ops.take k) 0 a [] []) : (Code.region id ops.toArray true).wp P Q a w :=
  R2.wp_region_rels (ApR.rels hG Bs) (ApR.of_ext ((Ext.refl [] w).drew)) k m Ss hm hc h

theorem ApR.sub {Ms : List Nat} {Good : World → Prop} {Bs : List Nat} {a b : World} (h : ApR Ms Good [] a b) : ApR Ms Good Bs a b :=
  ⟨h.1.more (by simp; exact fun x hx => .inl hx), fun x hx hlt _ => h.2 x hx hlt (by simp)⟩

/-- A store of one cell. -/
theorem does_skip {P : Program} {o : Oper} {ρ : Operand → Value} {W W' : World} {R : Value → World → Prop} (he : (execOp ρ o).run P W = .ok .skip W') (h : R undef W') : Does P o ρ W R := by
  unfold Does; rw [he]; exact h

end Go.Proofs.Ytoibfafmnaooaaa

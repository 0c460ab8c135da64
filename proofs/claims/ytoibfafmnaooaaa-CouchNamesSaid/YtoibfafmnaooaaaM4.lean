/-
  Increasing lists in order: what the shortest one is. No program in sight.
-/
import Derived.Test.YtoibfafmnaooaaaM3
namespace Cou

/-- Increasing, from f on, below a number. -/
def Inc (below : Nat) : Nat → List Int → Prop
  | _, [] => True
  | f, a :: x => ∃ n : Nat, a = n ∧ f ≤ n ∧ n < below ∧ Inc below (n + 1) x

theorem Inc.len {below : Nat} : ∀ (x : List Int) (f : Nat), Inc below f x → x.length ≤ below - f := by
  intro x
  induction x with
  | nil => intro f _; simp
  | cons a x ih =>
    rintro f ⟨n, _, h1, h2, h3⟩
    have := ih _ h3
    simp only [List.length_cons]
    omega

theorem mem_combs {below : Nat} : ∀ (m f : Nat) (x : List Int), x ∈ combs below m f ↔ x.length = m ∧ Inc below f x := by
  intro m
  induction m with
  | zero =>
    intro f x
    simp only [combs, List.mem_singleton]
    constructor
    · rintro rfl; exact ⟨rfl, trivial⟩
    · rintro ⟨h, _⟩; exact List.eq_nil_of_length_eq_zero h
  | succ m ih =>
    intro f x
    simp only [combs, List.mem_flatMap, List.mem_range, List.mem_map]
    constructor
    · rintro ⟨j, hj, y, hy, rfl⟩
      obtain ⟨h1, h2⟩ := (ih _ _).1 hy
      exact ⟨by simp [h1], f + j, rfl, by omega, by omega, h2⟩
    · rintro ⟨hl, hi⟩
      cases x with
      | nil => simp at hl
      | cons a x =>
        obtain ⟨n, rfl, h1, h2, h3⟩ := hi
        have := h3.len
        simp only [List.length_cons] at hl
        refine ⟨n - f, by omega, x, (ih _ _).2 ⟨by omega, ?_⟩, ?_⟩
        · rw [show f + (n - f) + 1 = n + 1 by omega]; exact h3
        · rw [show f + (n - f) = n by omega]

/-- Lexicographically before. -/
def before : List Int → List Int → Bool
  | [], b => !b.isEmpty
  | _ :: _, [] => false
  | x :: a, y :: b => if x = y then before a b else decide (x < y)

def shorter (a b : List Int) : Bool := decide (a.length < b.length) || (decide (a.length = b.length) && before a b)

theorem before_irrefl : ∀ a, before a a = false := by
  intro a
  induction a with
  | nil => rfl
  | cons x a ih => simp [before, ih]

theorem before_asymm : ∀ a b, before a b = true → before b a = false := by
  intro a
  induction a with
  | nil => intro b h; cases b <;> simp [before] at h ⊢
  | cons x a ih =>
    intro b h
    cases b with
    | nil => simp [before] at h
    | cons y b =>
      simp only [before] at h ⊢
      by_cases e : x = y
      · subst e; simp only [if_true] at h ⊢; exact ih _ h
      · rw [if_neg e] at h; rw [if_neg (fun e' => e e'.symm)]
        simp only [decide_eq_true_eq, decide_eq_false_iff_not] at h ⊢; omega

theorem before_total : ∀ a b, before a b = false → before b a = false → a = b := by
  intro a
  induction a with
  | nil => intro b h _; cases b <;> simp [before] at h ⊢
  | cons x a ih =>
    intro b h1 h2
    cases b with
    | nil => simp [before] at h2
    | cons y b =>
      simp only [before] at h1 h2
      by_cases e : x = y
      · subst e; simp only [if_true] at h1 h2; rw [ih _ h1 h2]
      · rw [if_neg e] at h1; rw [if_neg (fun e' => e e'.symm)] at h2
        simp only [decide_eq_false_iff_not] at h1 h2; omega

theorem shorter_irrefl (a : List Int) : shorter a a = false := by simp [shorter, before_irrefl]
theorem shorter_asymm {a b : List Int} (h : shorter a b = true) : shorter b a = false := by
  simp only [shorter, Bool.or_eq_true, Bool.and_eq_true, decide_eq_true_eq, Bool.or_eq_false_iff, Bool.and_eq_false_iff, decide_eq_false_iff_not] at h ⊢
  rcases h with h | ⟨h, hb⟩
  · exact ⟨by omega, .inl (by omega)⟩
  · exact ⟨by omega, .inr (before_asymm _ _ hb)⟩
theorem shorter_total {a b : List Int} (h1 : shorter a b = false) (h2 : shorter b a = false) : a = b := by
  simp only [shorter, Bool.or_eq_false_iff, Bool.and_eq_false_iff, decide_eq_false_iff_not] at h1 h2
  have hl : a.length = b.length := by omega
  exact before_total _ _ (h1.2.resolve_left (by simp [hl])) (h2.2.resolve_left (by simp [hl]))

/-- In such an order what is found first is the least. -/
theorem find_least {α : Type} (R : α → α → Prop) (p : α → Bool) : ∀ (l : List α), l.Pairwise R → ∀ c, l.find? p = some c → p c = true ∧ c ∈ l ∧ ∀ x ∈ l, p x = true → x = c ∨ R c x := by
  intro l
  induction l with
  | nil => intro _ c h; simp at h
  | cons y l ih =>
    intro hp c h
    rw [List.pairwise_cons] at hp
    rw [List.find?_cons] at h
    cases hy : p y with
    | true =>
      rw [hy] at h
      cases h
      refine ⟨hy, by simp, fun x hx _ => ?_⟩
      rcases List.mem_cons.1 hx with rfl | hx
      · exact .inl rfl
      · exact .inr (hp.1 _ hx)
    | false =>
      rw [hy] at h
      obtain ⟨h1, h2, h3⟩ := ih hp.2 c h
      refine ⟨h1, by simp [h2], fun x hx hpx => ?_⟩
      rcases List.mem_cons.1 hx with rfl | hx
      · rw [hy] at hpx; cases hpx
      · exact h3 x hx hpx

theorem pairwise_flat {α β : Type} (R : β → β → Prop) (f : α → List β) : ∀ (l : List α), (∀ x ∈ l, (f x).Pairwise R) → l.Pairwise (fun x y => ∀ a ∈ f x, ∀ b ∈ f y, R a b) → (l.flatMap f).Pairwise R := by
  intro l
  induction l with
  | nil => intro _ _; simp
  | cons x l ih =>
    intro h1 h2
    rw [List.pairwise_cons] at h2
    rw [List.flatMap_cons, List.pairwise_append]
    refine ⟨h1 x (by simp), ih (fun y hy => h1 y (by simp [hy])) h2.2, fun a ha b hb => ?_⟩
    obtain ⟨y, hy, hby⟩ := List.mem_flatMap.1 hb
    exact h2.1 y hy a ha b hby

theorem combs_sorted (below : Nat) : ∀ (m f : Nat), (combs below m f).Pairwise fun a b => before a b = true := by
  intro m
  induction m with
  | zero => intro f; simp [combs]
  | succ m ih =>
    intro f
    unfold combs
    refine pairwise_flat _ _ _ (fun j _ => ?_) ?_
    · rw [List.pairwise_map]
      exact (ih (f + j + 1)).imp fun h => by simpa [before] using h
    · refine List.pairwise_lt_range.imp fun {i j} hij => ?_
      intro a ha b hb
      obtain ⟨x, _, rfl⟩ := List.mem_map.1 ha
      obtain ⟨y, _, rfl⟩ := List.mem_map.1 hb
      simp only [before]
      rw [if_neg (by omega)]
      simp; omega

theorem shortAll_sorted (below : Nat) : ((List.range (below + 1)).flatMap fun m => combs below m 0).Pairwise fun a b => shorter a b = true := by
  refine pairwise_flat _ _ _ (fun m _ => ?_) ?_
  · refine List.Pairwise.imp_of_mem ?_ (combs_sorted below m 0)
    intro a b ha hb h
    simp [shorter, ((mem_combs _ _ _).1 ha).1, ((mem_combs _ _ _).1 hb).1, h]
  · refine List.pairwise_lt_range.imp fun {i j} hij => ?_
    intro a ha b hb
    simp [shorter, ((mem_combs _ _ _).1 ha).1, ((mem_combs _ _ _).1 hb).1, hij]

theorem mem_shortAll (below : Nat) (x : List Int) : x ∈ ((List.range (below + 1)).flatMap fun m => combs below m 0) ↔ Inc below 0 x := by
  rw [List.mem_flatMap]
  constructor
  · rintro ⟨m, _, h⟩; exact ((mem_combs _ _ _).1 h).2
  · intro h
    have := h.len
    exact ⟨x.length, by simp; omega, (mem_combs _ _ _).2 ⟨rfl, h⟩⟩

/-- **THE SHORTEST ONE.** -/
theorem shortL_some {below : Nat} {p : List Int → Bool} {c : List Int} (h : shortL below p = some c) : p c = true ∧ Inc below 0 c ∧ ∀ x, Inc below 0 x → p x = true → shorter x c = false := by
  obtain ⟨h1, h2, h3⟩ := find_least _ p _ (shortAll_sorted below) c h
  refine ⟨h1, (mem_shortAll _ _).1 h2, fun x hx hp => ?_⟩
  rcases h3 x ((mem_shortAll _ _).2 hx) hp with rfl | hr
  · exact shorter_irrefl _
  · exact shorter_asymm hr
theorem shortL_none {below : Nat} {p : List Int → Bool} (h : shortL below p = none) : ∀ x, Inc below 0 x → p x = false := by
  intro x hx
  unfold shortL at h
  rw [List.find?_eq_none] at h
  simpa using h x ((mem_shortAll _ _).2 hx)
theorem shortL_is {below : Nat} {p : List Int → Bool} {c : List Int} (h1 : p c = true) (h2 : Inc below 0 c) (h3 : ∀ x, Inc below 0 x → p x = true → shorter x c = false) : shortL below p = some c := by
  cases h : shortL below p with
  | none => rw [shortL_none h c h2] at h1; cases h1
  | some d =>
    obtain ⟨a, b, e⟩ := shortL_some h
    rw [shorter_total (e c h2 h1) (h3 d b a)]

end Cou

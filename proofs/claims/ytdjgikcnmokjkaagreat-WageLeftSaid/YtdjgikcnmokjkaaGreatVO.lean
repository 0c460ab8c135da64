/-
  Plain: a ledger that allows more than another one; one more note; a wider range.
-/
import Derived.Test.YtdjgikcnmokjkaaGreatVN
import Derived.Test.YtdjgikcnmokjkaaGreatVJ
import Derived.Test.YtdjgikcnmokjkaaGreatUJ
namespace Go.Proofs.YtdjgikcnmokjkaaGreat
open Go.RowKit Go.RG Go.SL Go.Shelf Cou Go.TB
set_option maxHeartbeats 400000
set_option maxRecDepth 10000

def InsideL (rs xs : List Rng) : Prop := rs.length = xs.length ∧ ∀ i, i < rs.length → (xs.getD i (0, 0)).1 ≤ (rs.getD i (0, 0)).1 ∧ (rs.getD i (0, 0)).2 ≤ (xs.getD i (0, 0)).2

theorem foldK_iff (key : Int × Int) : ∀ (ns : List Rdg) (r : Rng) (c : Int), ((ns.foldl (fun r n => if n.1 = key.1 then bothR r n.2 else r) r).1 ≤ c ↔ r.1 ≤ c ∧ ∀ y ∈ ns, y.1 = key.1 → y.2.1 ≤ c) ∧ (c ≤ (ns.foldl (fun r n => if n.1 = key.1 then bothR r n.2 else r) r).2 ↔ c ≤ r.2 ∧ ∀ y ∈ ns, y.1 = key.1 → c ≤ y.2.2) := by
  intro ns
  induction ns with
  | nil => intro r c; simp
  | cons a ns ih =>
    intro r c
    rw [List.foldl_cons]
    obtain ⟨h1, h2⟩ := ih (if a.1 = key.1 then bothR r a.2 else r) c
    rw [h1, h2]
    by_cases h : a.1 = key.1
    · rw [if_pos h]
      unfold bothR
      simp only [List.mem_cons, forall_eq_or_imp]
      constructor
      · constructor
        · rintro ⟨g1, g2⟩; exact ⟨by omega, fun _ => by omega, g2⟩
        · rintro ⟨g1, g2, g3⟩; have := g2 h; exact ⟨by omega, g3⟩
      · constructor
        · rintro ⟨g1, g2⟩; exact ⟨by omega, fun _ => by omega, g2⟩
        · rintro ⟨g1, g2, g3⟩; have := g2 h; exact ⟨by omega, g3⟩
    · rw [if_neg h]
      simp only [List.mem_cons, forall_eq_or_imp]
      constructor
      · constructor
        · rintro ⟨g1, g2⟩; exact ⟨g1, fun e => absurd e h, g2⟩
        · rintro ⟨g1, _, g3⟩; exact ⟨g1, g3⟩
      · constructor
        · rintro ⟨g1, g2⟩; exact ⟨g1, fun e => absurd e h, g2⟩
        · rintro ⟨g1, _, g3⟩; exact ⟨g1, g3⟩
theorem kn_low {ns : List Rdg} {key : Int × Int} {c : Int} : (kn ns key).1 ≤ c ↔ 0 ≤ c ∧ ∀ y ∈ ns, y.1 = key.1 → y.2.1 ≤ c := by
  unfold kn knTo
  rw [List.take_length]
  exact (foldK_iff key ns (0, key.2) c).1
theorem kn_high {ns : List Rdg} {key : Int × Int} {c : Int} : c ≤ (kn ns key).2 ↔ c ≤ key.2 ∧ ∀ y ∈ ns, y.1 = key.1 → c ≤ y.2.2 := by
  unfold kn knTo
  rw [List.take_length]
  exact (foldK_iff key ns (0, key.2) c).2
/-- Fewer notes, or wider ones, allow more. -/
theorem kn_wider {ns xs : List Rdg} (h : ∀ x ∈ xs, ∃ y ∈ ns, y.1 = x.1 ∧ x.2.1 ≤ y.2.1 ∧ y.2.2 ≤ x.2.2) (key : Int × Int) : (kn xs key).1 ≤ (kn ns key).1 ∧ (kn ns key).2 ≤ (kn xs key).2 := by
  have h1 := kn_low (ns := ns) (key := key).1 (Int.le_refl _)
  have h2 := kn_high (ns := ns) (key := key).1 (Int.le_refl _)
  refine ⟨kn_low.2 ⟨h1.1, fun x hx hk => ?_⟩, kn_high.2 ⟨h2.1, fun x hx hk => ?_⟩⟩
  · obtain ⟨y, hy, e, g1, g2⟩ := h x hx
    have := h1.2 y hy (e.trans hk)
    omega
  · obtain ⟨y, hy, e, g1, g2⟩ := h x hx
    have := h2.2 y hy (e.trans hk)
    omega

/-- Ledger x, without some notes, allows all that ledger l does, without others. -/
structure WidG (l x : LedgerD) (o q : List Int) : Prop where
  field : x.field = l.field
  rate : x.rate = l.rate
  box : x.box.1 ≤ l.box.1 ∧ l.box.2 ≤ x.box.2
  notes : ∀ n ∈ leftL x q, ∃ y ∈ leftL l o, y.1 = n.1 ∧ n.2.1 ≤ y.2.1 ∧ y.2.2 ≤ n.2.2
theorem WidG.kn {l x : LedgerD} {o q : List Int} (h : WidG l x o q) (i : Nat) (due : Int) : (knownL x q i due).1 ≤ (knownL l o i due).1 ∧ (knownL l o i due).2 ≤ (knownL x q i due).2 := by
  rw [← kn_known, ← kn_known]
  exact kn_wider h.notes _
theorem sumI_mono : ∀ (a b : List Int), a.length = b.length → (∀ i, i < a.length → a.getD i 0 ≤ b.getD i 0) → sumI a ≤ sumI b ∧ ∀ i, i < a.length → sumI a - a.getD i 0 ≤ sumI b - b.getD i 0 := by
  intro a
  induction a with
  | nil => intro b hl h; cases b with
    | nil => simp [sumI]
    | cons y b => simp at hl
  | cons x a ih =>
    intro b hl h
    cases b with
    | nil => simp at hl
    | cons y b =>
      obtain ⟨h1, h2⟩ := ih b (by simpa using hl) (fun i hi => by have := h (i + 1) (by simp; omega); simpa using this)
      have h0 := h 0 (by simp)
      simp only [List.getD_cons_zero] at h0
      rw [sumI_cons, sumI_cons]
      refine ⟨by omega, fun i hi => ?_⟩
      cases i with
      | zero => simp only [List.getD_cons_zero]; omega
      | succ j =>
        have := h2 j (by simpa using hi)
        simp only [List.getD_cons_succ]
        omega
theorem sumI_mono' {a b : List Int} (hl : a.length = b.length) (h : ∀ i, i < a.length → a.getD i 0 ≤ b.getD i 0) : sumI a ≤ sumI b := (sumI_mono a b hl h).1
theorem aloneM_get (l : LedgerD) (o d : List Int) (f : Rng → Int) {i : Nat} (hi : i < l.field.weeders.toNat) : ((alone l o d).map f).getD i 0 = f (knownL l o i (d.getD i 0)) := by
  unfold alone
  simp [List.getD, hi]
theorem WidG.sums {l x : LedgerD} {o q : List Int} (h : WidG l x o q) (d : List Int) : (lowL x q d ≤ lowL l o d ∧ ∀ i, i < l.field.weeders.toNat → lowL x q d - (knownL x q i (d.getD i 0)).1 ≤ lowL l o d - (knownL l o i (d.getD i 0)).1) ∧
    (highL l o d ≤ highL x q d ∧ ∀ i, i < l.field.weeders.toNat → highL l o d - (knownL l o i (d.getD i 0)).2 ≤ highL x q d - (knownL x q i (d.getD i 0)).2) := by
  have hwx : x.field.weeders.toNat = l.field.weeders.toNat := by rw [h.field]
  unfold lowL highL
  constructor
  · have g := sumI_mono ((alone x q d).map (·.1)) ((alone l o d).map (·.1)) (by simp [alone_len, hwx]) (fun i hi => by
      have hi' : i < l.field.weeders.toNat := by simpa [alone_len, hwx] using hi
      rw [aloneM_get x q d _ (by omega), aloneM_get l o d _ hi']
      exact (h.kn i _).1)
    refine ⟨g.1, fun i hi => ?_⟩
    have := g.2 i (by simpa [alone_len, hwx] using hi)
    rw [aloneM_get x q d _ (by omega), aloneM_get l o d _ hi] at this
    exact this
  · have g := sumI_mono ((alone l o d).map (·.2)) ((alone x q d).map (·.2)) (by simp [alone_len, hwx]) (fun i hi => by
      have hi' : i < l.field.weeders.toNat := by simpa [alone_len] using hi
      rw [aloneM_get x q d _ (by omega), aloneM_get l o d _ hi']
      exact (h.kn i _).2)
    refine ⟨g.1, fun i hi => ?_⟩
    have := g.2 i (by simpa [alone_len] using hi)
    rw [aloneM_get x q d _ (by omega), aloneM_get l o d _ hi] at this
    exact this
theorem WidG.can {l x : LedgerD} {o q : List Int} (h : WidG l x o q) {d : List Int} (hc : canPay l o d = true) : canPay x q d = true := by
  have hwx : x.field.weeders.toNat = l.field.weeders.toNat := by rw [h.field]
  obtain ⟨⟨g1, _⟩, g2, _⟩ := h.sums d
  unfold canPay at hc ⊢
  simp only [Bool.and_eq_true, decide_eq_true_eq, List.all_eq_true] at hc ⊢
  obtain ⟨⟨h1, h2⟩, h3⟩ := hc
  have hb := h.box
  refine ⟨⟨fun r hr => ?_, by omega⟩, by omega⟩
  unfold alone at hr
  obtain ⟨i, hi, rfl⟩ := List.mem_map.1 hr
  rw [hwx] at hi
  have := h1 (knownL l o i (d.getD i 0)) (List.mem_map.2 ⟨i, hi, rfl⟩)
  have := h.kn i (d.getD i 0)
  omega
theorem WidG.dues {l x : LedgerD} {o q : List Int} (h : WidG l x o q) : duesT x = duesT l := duesT_left h.field h.rate
theorem WidG.possible {l x : LedgerD} {o q : List Int} (h : WidG l x o q) (hp : possibleL l o = true) : possibleL x q = true := by
  unfold possibleL at hp ⊢
  rw [h.dues]
  rw [List.any_eq_true] at hp ⊢
  obtain ⟨d, hd, hc⟩ := hp
  exact ⟨d, hd, h.can hc⟩
theorem WidG.paid {l x : LedgerD} (h : WidG l x [] []) (d : List Int) {i : Nat} (hi : i < l.field.weeders.toNat) : ((paidL x [] d).getD i (0, 0)).1 ≤ ((paidL l [] d).getD i (0, 0)).1 ∧ ((paidL l [] d).getD i (0, 0)).2 ≤ ((paidL x [] d).getD i (0, 0)).2 := by
  have hwx : x.field.weeders.toNat = l.field.weeders.toNat := by rw [h.field]
  obtain ⟨⟨_, g1⟩, _, g2⟩ := h.sums d
  have g1 := g1 i hi
  have g2 := g2 i hi
  have g3 := h.kn i (d.getD i 0)
  have hb := h.box
  rw [paidL_get x [] d (by omega), paidL_get l [] d hi]
  unfold bothR
  simp only
  omega
/-- All bounds of a part are within those of the ledger that allows more. -/
theorem WidG.inside {l x : LedgerD} (h : WidG l x [] []) (ha : askedErr l true = 0) (hx : askedErr x true = 0) {p : Int → Rng → Rng} (hp : ∀ (due : Int) (r s : Rng), s.1 ≤ r.1 → r.2 ≤ s.2 → (p due s).1 ≤ (p due r).1 ∧ (p due r).2 ≤ (p due s).2) : InsideL (bndL p l (duesT l)) (bndL p x (duesT x)) := by
  obtain ⟨hS, hs⟩ := asked_ok ha
  obtain ⟨hSx, hsx⟩ := asked_ok hx
  have l1 := least_len hS hs p
  have l2 := least_len hSx hsx p
  have hwx : x.field.weeders.toNat = l.field.weeders.toNat := by rw [h.field]
  refine ⟨by omega, fun i hi => ?_⟩
  rw [l1] at hi
  have g1 := bnd_hull hs p hi
  have g2 := bnd_hull hsx p (show i < x.field.weeders.toNat by omega)
  obtain ⟨⟨a, ⟨d, hd, hc, rfl⟩, ea⟩, _⟩ := g1.low
  obtain ⟨⟨b, ⟨d2, hd2, hc2, rfl⟩, eb⟩, _⟩ := g1.high
  have k1 := g2.low.2 _ ⟨d, by rw [h.dues]; exact hd, h.can hc, rfl⟩
  have k2 := g2.high.2 _ ⟨d2, by rw [h.dues]; exact hd2, h.can hc2, rfl⟩
  have m1 := h.paid d hi
  have m2 := h.paid d2 hi
  have n1 := hp (d.getD i 0) _ _ m1.1 m1.2
  have n2 := hp (d2.getD i 0) _ _ m2.1 m2.2
  omega
theorem mono_E : ∀ (due : Int) (r s : Rng), s.1 ≤ r.1 → r.2 ≤ s.2 → (partE due s).1 ≤ (partE due r).1 ∧ (partE due r).2 ≤ (partE due s).2 := fun _ _ _ _ _ => ⟨Int.le_refl _, Int.le_refl _⟩
theorem mono_P : ∀ (due : Int) (r s : Rng), s.1 ≤ r.1 → r.2 ≤ s.2 → (partP due s).1 ≤ (partP due r).1 ∧ (partP due r).2 ≤ (partP due s).2 := fun _ _ _ h1 h2 => ⟨h1, h2⟩
theorem mono_O : ∀ (due : Int) (r s : Rng), s.1 ≤ r.1 → r.2 ≤ s.2 → (partO due s).1 ≤ (partO due r).1 ∧ (partO due r).2 ≤ (partO due s).2 := fun _ _ _ h1 h2 => by unfold partO; simp only; omega
theorem leave_nil {l : LedgerD} (h : faultW l = 0) : leaveW l = [] ↔ possibleL l [] = true := by
  have hp := (faultW_sound h).2
  obtain ⟨h1, _, h3⟩ := leave_is hp
  constructor
  · intro e; rw [e] at h1; exact h1
  · intro hn
    have := le_of_not_shorter (h3 [] (by simp [Inc]) hn)
    exact List.eq_nil_of_length_eq_zero (by simpa using this)
theorem asked_of_leave {l : LedgerD} (h : faultW l = 0) (hl : leaveW l = []) : askedErr l true = 0 := by
  unfold askedErr
  rw [h, (leave_nil h).1 hl]
  simp
/-- Safe payments stay safe in a ledger that allows less. -/
theorem WidG.safe {l x : LedgerD} (h : WidG x l [] []) (ha : askedErr l true = 0) (hx : askedErr x true = 0) {m : Int} (h0 : 0 ≤ m) : proveSafeB x (safeV l m) = true := by
  have hok := safe_ok ha h0
  have hin := h.inside hx ha mono_O
  have hwx : l.field.weeders.toNat = x.field.weeders.toNat := by rw [h.field]
  unfold proveSafeB at hok ⊢
  simp only [Bool.and_eq_true, decide_eq_true_eq] at hok ⊢
  obtain ⟨_, h2, h3⟩ := hok
  refine ⟨hx, by omega, ?_⟩
  unfold safeTo at h3 ⊢
  rw [List.all_eq_true] at h3 ⊢
  intro i hi
  have hi' := List.mem_range.1 hi
  have h4 := h3 i (by rw [hwx]; exact hi)
  obtain ⟨hSx, hsx⟩ := asked_ok hx
  have l1 := least_len hSx hsx partO
  have h5 := (hin.2 i (by omega)).1
  unfold leastW inB at h4 ⊢
  have e1 : ((bndL partO l (duesT l)).map (·.1)).getD i 0 = ((bndL partO l (duesT l)).getD i (0, 0)).1 := by
    have : i < (bndL partO l (duesT l)).length := by rw [← hin.1]; omega
    simp [List.getD, this]
  have e2 : ((bndL partO x (duesT x)).map (·.1)).getD i 0 = ((bndL partO x (duesT x)).getD i (0, 0)).1 := by
    have : i < (bndL partO x (duesT x)).length := by omega
    simp [List.getD, this]
  rw [e1] at h4
  rw [e2]
  simp only [Bool.and_eq_true, decide_eq_true_eq] at h4 ⊢
  omega

/-! ### One more note -/

def addG (l : LedgerD) (x : Rdg) : LedgerD := ⟨l.field, l.rate, l.box, l.notes ++ [x]⟩
theorem mem_leftL {l : LedgerD} {o : List Int} {n : Rdg} : n ∈ leftL l o ↔ ∃ i, i < l.notes.length ∧ o.contains (i : Int) = false ∧ n = l.notes.getD i (0, 0, 0) := by
  unfold leftL leftTo
  rw [List.mem_map]
  constructor
  · rintro ⟨i, hi, rfl⟩
    rw [List.mem_filter, List.mem_range] at hi
    exact ⟨i, hi.1, by simpa using hi.2, rfl⟩
  · rintro ⟨i, h1, h2, rfl⟩
    exact ⟨i, List.mem_filter.2 ⟨List.mem_range.2 h1, by rw [h2]; rfl⟩, rfl⟩
theorem add_wid {l : LedgerD} {x : Rdg} {o q : List Int} (h : ∀ i : Nat, i < l.notes.length → q.contains (i : Int) = false → o.contains (i : Int) = false) : WidG (addG l x) l o q where
  field := rfl
  rate := rfl
  box := ⟨Int.le_refl _, Int.le_refl _⟩
  notes := fun n hn => by
    obtain ⟨i, h1, h2, rfl⟩ := mem_leftL.1 hn
    refine ⟨_, mem_leftL.2 ⟨i, by simp [addG]; omega, h i h1 h2, rfl⟩, ?_⟩
    have : (addG l x).notes.getD i (0, 0, 0) = l.notes.getD i (0, 0, 0) := by simp [addG, List.getD, List.getElem?_append_left h1, h1]
    rw [this]
    exact ⟨rfl, Int.le_refl _, Int.le_refl _⟩
theorem add_wid2 {l : LedgerD} {x : Rdg} {o q : List Int} (h : ∀ i : Nat, i < l.notes.length → q.contains (i : Int) = false → o.contains (i : Int) = false) (hN : q.contains (l.notes.length : Int) = true) : WidG l (addG l x) o q where
  field := rfl
  rate := rfl
  box := ⟨Int.le_refl _, Int.le_refl _⟩
  notes := fun n hn => by
    obtain ⟨i, h1, h2, rfl⟩ := mem_leftL.1 hn
    have h1' : i < l.notes.length + 1 := by simpa [addG] using h1
    by_cases e : i = l.notes.length
    · subst e; rw [hN] at h2; cases h2
    · have hi : i < l.notes.length := by omega
      refine ⟨_, mem_leftL.2 ⟨i, hi, h i hi h2, rfl⟩, ?_⟩
      have : (addG l x).notes.getD i (0, 0, 0) = l.notes.getD i (0, 0, 0) := by simp [addG, List.getD, List.getElem?_append_left hi, hi]
      rw [this]
      exact ⟨rfl, Int.le_refl _, Int.le_refl _⟩
theorem inc_filter {n m : Nat} {c : List Int} (h : Inc n 0 c) : Inc m 0 (c.filter fun x => decide (x < (m : Int))) := by
  rw [inc_pairwise] at h ⊢
  refine ⟨h.1.filter _, fun x hx => ?_⟩
  have := List.mem_filter.1 hx
  exact ⟨(h.2 x this.1).1, by simpa using this.2⟩
theorem inc_snoc {n : Nat} {c : List Int} (h : Inc n 0 c) : Inc (n + 1) 0 (c ++ [(n : Int)]) := by
  rw [inc_pairwise] at h ⊢
  refine ⟨List.pairwise_append.2 ⟨h.1, List.pairwise_singleton _ _, fun a ha b hb => ?_⟩, fun x hx => ?_⟩
  · rw [List.mem_singleton.1 hb]; exact (h.2 a ha).2
  · rcases List.mem_append.1 hx with hx | hx
    · have := h.2 x hx; omega
    · rw [List.mem_singleton.1 hx]; omega
/-- One more note: no fewer have to be left out, and at most one more. -/
theorem more_leave {l : LedgerD} {x : Rdg} (h : faultW l = 0) (hx : faultW (addG l x) = 0) : (leaveW l).length ≤ (leaveW (addG l x)).length ∧ (leaveW (addG l x)).length ≤ (leaveW l).length + 1 := by
  obtain ⟨a1, a2, a3⟩ := leave_is (faultW_sound h).2
  obtain ⟨b1, b2, b3⟩ := leave_is (faultW_sound hx).2
  have hN : (addG l x).notes.length = l.notes.length + 1 := by simp [addG]
  constructor
  · have hw : WidG (addG l x) l (leaveW (addG l x)) ((leaveW (addG l x)).filter fun y => decide (y < (l.notes.length : Int))) := add_wid fun i hi hc => by
      rw [← Bool.not_eq_true, List.contains_iff_mem] at hc ⊢
      intro hm
      exact hc (List.mem_filter.2 ⟨hm, by simp; omega⟩)
    have := le_of_not_shorter (a3 _ (inc_filter b2) (hw.possible b1))
    have := List.length_filter_le (fun y => decide (y < (l.notes.length : Int))) (leaveW (addG l x))
    omega
  · have hw : WidG l (addG l x) (leaveW l) (leaveW l ++ [(l.notes.length : Int)]) := add_wid2 (fun i hi hc => by
      rw [← Bool.not_eq_true, List.contains_iff_mem] at hc ⊢
      intro hm
      exact hc (List.mem_append_left _ hm)) (by rw [List.contains_iff_mem]; simp)
    have := le_of_not_shorter (b3 _ (by rw [hN]; exact inc_snoc a2) (hw.possible a1))
    simpa using this
theorem more_plain {l : LedgerD} {x : Rdg} (h : faultW l = 0) (hx : faultW (addG l x) = 0) (hl : leaveW (addG l x) = []) : askedErr l true = 0 ∧ askedErr (addG l x) true = 0 ∧ InsideL (bndL partE (addG l x) (duesT (addG l x))) (bndL partE l (duesT l)) ∧ InsideL (bndL partO (addG l x) (duesT (addG l x))) (bndL partO l (duesT l)) ∧ ∀ m, 0 ≤ m → proveSafeB (addG l x) (safeV l m) = true := by
  have hll : leaveW l = [] := List.eq_nil_of_length_eq_zero (by have := (more_leave h hx).1; rw [hl] at this; simpa using this)
  have ha := asked_of_leave h hll
  have hax := asked_of_leave hx hl
  have hw : WidG (addG l x) l [] [] := add_wid fun i _ h => h
  exact ⟨ha, hax, hw.inside hax ha mono_E, hw.inside hax ha mono_O, fun m h0 => hw.safe ha hax h0⟩

/-! ### A wider range -/

theorem wider_leave {l x : LedgerD} (h : faultW l = 0) (hx : faultW x = 0) (hn : x.notes.length = l.notes.length) (hw : ∀ o, WidG l x o o) : (leaveW x).length ≤ (leaveW l).length := by
  obtain ⟨a1, a2, a3⟩ := leave_is (faultW_sound h).2
  obtain ⟨b1, b2, b3⟩ := leave_is (faultW_sound hx).2
  exact le_of_not_shorter (b3 _ (by rw [hn]; exact a2) ((hw _).possible a1))
theorem wider_plain {l x : LedgerD} (h : faultW l = 0) (hx : faultW x = 0) (hn : x.notes.length = l.notes.length) (hw : ∀ o, WidG l x o o) (hl : leaveW l = []) : askedErr l true = 0 ∧ askedErr x true = 0 ∧ InsideL (bndL partP l (duesT l)) (bndL partP x (duesT x)) ∧ InsideL (bndL partO l (duesT l)) (bndL partO x (duesT x)) := by
  have hlx : leaveW x = [] := List.eq_nil_of_length_eq_zero (by have := wider_leave h hx hn hw; rw [hl] at this; simpa using this)
  have ha := asked_of_leave h hl
  have hax := asked_of_leave hx hlx
  exact ⟨ha, hax, (hw []).inside ha hax mono_P, (hw []).inside ha hax mono_O⟩
end Go.Proofs.YtdjgikcnmokjkaaGreat

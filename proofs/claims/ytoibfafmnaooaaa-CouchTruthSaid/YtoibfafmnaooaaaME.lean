/-
  The plain laws of chapter 4, seventh part: wetter heaps, more turnings, more readings, wider ranges. No program in sight.
-/
import Derived.WalkKit
import Derived.WalkLawsBesides
import Derived.WalkSpells
import Derived.Outline
import Derived.Handy
import Derived.KernelRfl
import Derived.Lib.Hide
import Derived.Test.YtoibfafmnaooaaaML
namespace Go.Proofs.Ytoibfafmnaooaaa
open Cou

theorem cooled_mono {c n m : Int} (h1 : c ≤ 100) (h : n ≤ m) (b : Bool) : cooled c n b ≤ cooled c m b := by
  unfold cooled
  cases b
  · simpa using h
  · simp only [if_true]
    have e1 : m * c = n * c + (m - n) * c := by rw [← Int.add_mul]; congr 1; omega
    have e2 : (m - n) * c ≤ (m - n) * 100 := Int.mul_le_mul_of_nonneg_left h1 (by omega)
    have e3 : m * c / 100 ≤ (n * c + (m - n) * 100) / 100 := Int.ediv_le_ediv (by decide) (by omega)
    rw [Int.add_mul_ediv_right _ _ (by decide)] at e3
    omega
theorem cooled_turn {c n : Int} (h0 : 0 ≤ c) (hn : 0 ≤ n) (b : Bool) : cooled c n true ≤ cooled c n b := by
  unfold cooled
  have : 0 ≤ n * c / 100 := Int.ediv_nonneg (Int.mul_nonneg hn h0) (by decide)
  cases b <;> simp <;> omega
theorem cooled_nonneg {c n : Int} (h1 : c ≤ 100) (hn : 0 ≤ n) (b : Bool) : 0 ≤ cooled c n b := by
  have := cooled_mono h1 hn b
  have e : cooled c 0 b = 0 := by unfold cooled; cases b <;> simp
  omega

/-- A wetter heap is no cooler; one turning more makes none warmer. -/
theorem heatAt_mono {size cool : Int} (hs0 : 0 ≤ size) (hc0 : 0 ≤ cool) (hc1 : cool ≤ 100) {turns turns' : List Int} (ht : ∀ i : Nat, turns'.contains (i : Int) = true → turns.contains (i : Int) = true)
    {start start' : Int} {wet wet' : List Int} (h0 : start ≤ start') (hw : ∀ i, wet.getD i 0 ≤ wet'.getD i 0) (hp : 0 ≤ start) (hwp : ∀ i, 0 ≤ wet.getD i 0) :
    ∀ k, 0 ≤ heatAt size cool turns start wet k ∧ heatAt size cool turns start wet k ≤ heatAt size cool turns' start' wet' k := by
  intro k
  induction k with
  | zero => exact ⟨hp, h0⟩
  | succ k ih =>
    have hq : 0 ≤ size * wet.getD k 0 / 10 := Int.ediv_nonneg (Int.mul_nonneg hs0 (hwp k)) (by decide)
    have hr : size * wet.getD k 0 / 10 ≤ size * wet'.getD k 0 / 10 := Int.ediv_le_ediv (by decide) (Int.mul_le_mul_of_nonneg_left (hw k) hs0)
    have h1 := cooled_nonneg hc1 ih.1 (turns.contains (k : Int))
    have h2 : cooled cool (heatAt size cool turns start wet k) (turns.contains (k : Int)) ≤ cooled cool (heatAt size cool turns' start' wet' k) (turns'.contains (k : Int)) := by
      have h3 := cooled_mono hc1 ih.2 (turns'.contains (k : Int))
      cases hc : turns'.contains (k : Int)
      · rw [hc] at h3
        cases hd : turns.contains (k : Int)
        · exact h3
        · exact Int.le_trans (cooled_turn hc0 ih.1 false) h3
      · rw [hc] at h3
        rw [ht k hc]
        exact h3
    simp only [heatAt, stepH]
    omega

/-- What comes later does not matter. -/
theorem heatAt_same {size cool : Int} {turns turns' : List Int} {start : Int} {wet wet' : List Int} : ∀ k, (∀ i : Nat, i < k → turns.contains (i : Int) = turns'.contains (i : Int) ∧ wet.getD i 0 = wet'.getD i 0) →
    heatAt size cool turns start wet k = heatAt size cool turns' start wet' k := by
  intro k
  induction k with
  | zero => intro _; rfl
  | succ k ih =>
    intro h
    obtain ⟨h1, h2⟩ := h k (by omega)
    simp only [heatAt, stepH]
    rw [ih (fun i hi => h i (by omega)), h1, h2]


/-! ### What is a truth, by its numbers -/
theorem prodL_of : ∀ (rs : List Rng) (x : List Int), x.length = rs.length → (∀ i, i < rs.length → (rs.getD i (0, 0)).1 ≤ x.getD i 0 ∧ x.getD i 0 ≤ (rs.getD i (0, 0)).2) → x ∈ prodL rs := by
  intro rs
  induction rs with
  | nil => intro x hx _; obtain rfl := List.eq_nil_of_length_eq_zero hx; simp [prodL]
  | cons r rs ih =>
    intro x hx hb
    cases x with
    | nil => simp at hx
    | cons a x =>
      have h0 := hb 0 (by simp)
      simp only [prodL, List.mem_flatMap, List.mem_map]
      exact ⟨a, mem_rangeL.2 (by simpa using h0), x, ih x (by simpa using hx) (fun i hi => by simpa using hb (i + 1) (by simpa using hi)), rfl⟩

theorem listedT_iff {h : HeapD} (hS : Sound h) (t : Int × List Int) : listedT h t = true ↔ t.2.length = h.wet.length ∧ (h.start.1 ≤ t.1 ∧ t.1 ≤ h.start.2) ∧ ∀ i, i < h.wet.length → (h.wet.getD i (0, 0)).1 ≤ t.2.getD i 0 ∧ t.2.getD i 0 ≤ (h.wet.getD i (0, 0)).2 := by
  have hw := hS.wetLen
  simp only [listedT, listedAt, inB, Bool.and_eq_true, List.all_eq_true, bne, Bool.not_not, beq_iff_eq, decide_eq_true_eq, List.mem_range]
  constructor
  · rintro ⟨h1, h2, h3⟩
    exact ⟨by omega, h2, h3⟩
  · rintro ⟨h1, h2, h3⟩
    exact ⟨by omega, h2, h3⟩

theorem truths_mem {h : HeapD} (hS : Sound h) (out : List Int) (t : Int × List Int) : t ∈ truthsL h out ↔ listedT h t = true ∧ okT h out t = true := by
  unfold truthsL
  rw [List.mem_map]
  constructor
  · rintro ⟨x, hx, rfl⟩
    obtain ⟨hx1, hx2⟩ := List.mem_filter.1 hx
    obtain ⟨n, _, _, e⟩ := nthT_all hS hx1
    exact ⟨by rw [← e]; exact nthT_listed hS n, hx2⟩
  · rintro ⟨h1, h2⟩
    obtain ⟨a1, a2, a3⟩ := (listedT_iff hS t).1 h1
    refine ⟨t.1 :: t.2, List.mem_filter.2 ⟨prodL_of _ _ (by simp [a1]) fun i hi => ?_, h2⟩, rfl⟩
    cases i with
    | zero => simpa using a2
    | succ i => simpa using a3 i (by simpa using hi)

theorem okT_iff (h : HeapD) (out : List Int) (t : Int × List Int) : okT h out t = true ↔ ∀ i, i < h.readings.length → out.contains (i : Int) = true ∨ rightR (h.readings.getD i (0, 0, 0)) (heats h t h.turns) = true := by
  unfold okT okAt
  simp only [List.all_eq_true, List.mem_range, Bool.or_eq_true]

theorem canL_iff {h : HeapD} (hS : Sound h) (out : List Int) : canL h out = true ↔ ∃ t, listedT h t = true ∧ okT h out t = true := by
  unfold canL
  constructor
  · intro e
    cases hl : truthsL h out with
    | nil => rw [hl] at e; cases e
    | cons a l => exact ⟨a, (truths_mem hS out a).1 (by rw [hl]; exact List.mem_cons_self)⟩
  · rintro ⟨t, ht⟩
    have := (truths_mem hS out t).2 ht
    cases hl : truthsL h out with
    | nil => rw [hl] at this; cases this
    | cons a l => rfl

/-! ### Heaps whose truths are among those of another one -/
structure Sub (x h : HeapD) : Prop where
  sx : Sound x
  sh : Sound h
  last : x.last = h.last
  size : x.size = h.size
  cool : x.cool = h.cool
  die : x.die = h.die
  burn : x.burn = h.burn
  sub : ∀ t ∈ truthsL x [], t ∈ truthsL h []

theorem Sub.heats {x h : HeapD} (hs : Sub x h) (t : Int × List Int) (turns : List Int) : heats x t turns = heats h t turns := by
  unfold Cou.heats
  rw [hs.size, hs.cool]
theorem Sub.kept {x h : HeapD} (hs : Sub x h) (l : List Int) : keptL x l = keptL h l := by
  unfold keptL lostB
  rw [hs.last, hs.die, hs.burn]
theorem Sub.every {x h : HeapD} (hs : Sub x h) (turns : List Int) : ∀ y ∈ everyL x turns, y ∈ everyL h turns := by
  intro y hy
  obtain ⟨t, ht, rfl⟩ := (mem_everyL x turns y).1 hy
  rw [hs.heats]
  exact (mem_everyL h turns _).2 ⟨t, hs.sub t ht, rfl⟩
theorem Sub.ne {x h : HeapD} (hs : Sub x h) (hn : (truthsL x []).isEmpty = false) : (truthsL h []).isEmpty = false := by
  cases hl : truthsL x [] with
  | nil => rw [hl] at hn; cases hn
  | cons a l =>
    have := hs.sub a (by rw [hl]; exact List.mem_cons_self)
    cases hh : truthsL h [] with
    | nil => rw [hh] at this; cases this
    | cons b m => rfl
theorem Sub.safe {x h : HeapD} (hs : Sub x h) {l : List Int} (hk : safeL h l = true) : safeL x l = true := by
  unfold safeL at hk ⊢
  rw [List.all_eq_true] at hk ⊢
  intro t ht
  rw [hs.kept, hs.heats]
  exact hk t (hs.sub t ht)

theorem needed_ok {h : HeapD} (hS : Sound h) (hn : (truthsL h []).isEmpty = false) : neededV h = (match fewS h with | none => 100 | some c => (c.length : Int)) := by
  have ha := ask_of' hS
  rw [hn] at ha
  have ha' : askErr h [] = 0 := ha
  unfold neededV fewErr fewL
  rw [ha']
  cases fewS h <;> simp

theorem Sub.plain {x h : HeapD} (hs : Sub x h) (hn : (truthsL x []).isEmpty = false) {turns : List Int} (htu : isTurns h.last turns = true) :
    askErr x turns = 0 ∧ askErr h turns = 0 ∧ narrowerB (boundsOut x turns) (boundsOut h turns) = true ∧ (keepsV h turns = 3 ∨ keepsV h turns = keepsV x turns) ∧ 0 ≤ neededV x ∧ neededV x ≤ neededV h := by
  have hn' := hs.ne hn
  have h1 : askErr x turns = 0 := by rw [ask_turns hs.sx (by rw [hs.last]; exact htu), hn]; rfl
  have h2 : askErr h turns = 0 := by rw [ask_turns hs.sh htu, hn']; rfl
  refine ⟨h1, h2, ?_, ?_, ?_⟩
  · unfold boundsOut
    rw [if_pos h1, if_pos h2, hs.last]
    refine narrowerB_of ((boundsL_len (every_ne hn)).trans (boundsL_len (every_ne hn')).symm) fun i hi => ?_
    rw [boundsL_len (every_ne hn)] at hi
    exact boundsL_sub (every_ne hn) (hs.every turns) hi
  · unfold keepsV
    simp only [h1, h2, ne_eq, not_true_eq_false, if_false]
    have hk : keptL x = keptL h := funext hs.kept
    rw [hk]
    by_cases c1 : (everyL h turns).all (keptL h) = true
    · right
      rw [if_pos c1, if_pos]
      rw [List.all_eq_true] at c1 ⊢
      exact fun y hy => c1 y (hs.every turns y hy)
    · rw [if_neg c1]
      by_cases c2 : (everyL h turns).any (keptL h) = true
      · left; rw [if_pos c2]
      · right
        rw [if_neg c2]
        have c3 : ¬ (everyL x turns).any (keptL h) = true := fun e => by
          rw [List.any_eq_true] at e
          obtain ⟨y, hy, hyk⟩ := e
          exact c2 (List.any_eq_true.2 ⟨y, hs.every turns y hy, hyk⟩)
        have c4 : ¬ (everyL x turns).all (keptL h) = true := fun e => by
          have hne := every_ne (turns := turns) hn
          cases hl : everyL x turns with
          | nil => exact hne hl
          | cons y l =>
            rw [List.all_eq_true] at e
            exact c3 (List.any_eq_true.2 ⟨y, by rw [hl]; exact List.mem_cons_self, e y (by rw [hl]; exact List.mem_cons_self)⟩)
        rw [if_neg c3, if_neg c4]
  · rw [needed_ok hs.sx hn, needed_ok hs.sh hn']
    have hl9 := hs.sh.last9
    cases hx : fewS x with
    | none =>
      cases hh : fewS h with
      | none => decide
      | some c =>
        obtain ⟨k1, k2, _⟩ := shortL_some hh
        have := shortL_none hx c (by rw [hs.last]; exact k2)
        rw [hs.safe k1] at this
        cases this
    | some d =>
      obtain ⟨e1, e2, e3⟩ := shortL_some hx
      have := e2.len
      rw [hs.last] at this e2 e3
      refine ⟨by simp only; omega, ?_⟩
      cases hh : fewS h with
      | none => simp only; omega
      | some c =>
        obtain ⟨k1, k2, _⟩ := shortL_some hh
        have := e3 c k2 (hs.safe k1)
        simp only [shorter, Bool.or_eq_false_iff, decide_eq_false_iff_not] at this
        simp only
        omega

/-! ### One more reading -/
def moreH (h : HeapD) (m : Rdg) : HeapD := { h with readings := h.readings ++ [m] }

theorem more_ok {h : HeapD} {m : Rdg} {out : List Int} {t : Int × List Int} : okT (moreH h m) out t = true ↔ okT h out t = true ∧ (out.contains (h.readings.length : Int) = true ∨ rightR m (heats h t h.turns) = true) := by
  rw [okT_iff, okT_iff]
  show (∀ i, i < (h.readings ++ [m]).length → out.contains (i : Int) = true ∨ rightR ((h.readings ++ [m]).getD i (0, 0, 0)) (heats h t h.turns) = true) ↔ _
  constructor
  · intro hh
    refine ⟨fun i hi => ?_, ?_⟩
    · have := hh i (by simp; omega)
      rwa [show (h.readings ++ [m]).getD i (0, 0, 0) = h.readings.getD i (0, 0, 0) from by simp [List.getD, List.getElem?_append_left hi]] at this
    · have := hh h.readings.length (by simp)
      rwa [show (h.readings ++ [m]).getD h.readings.length (0, 0, 0) = m from by simp [List.getD]] at this
  · rintro ⟨h1, h2⟩ i hi
    by_cases e : i < h.readings.length
    · rw [show (h.readings ++ [m]).getD i (0, 0, 0) = h.readings.getD i (0, 0, 0) from by simp [List.getD, List.getElem?_append_left e]]
      exact h1 i e
    · obtain rfl : i = h.readings.length := by simp at hi; omega
      rw [show (h.readings ++ [m]).getD h.readings.length (0, 0, 0) = m from by simp [List.getD]]
      exact h2
theorem more_listed {h : HeapD} {m : Rdg} {t : Int × List Int} : listedT (moreH h m) t = listedT h t := rfl

theorem more_plain {h : HeapD} {m : Rdg} (hS : Sound h) (hX : Sound (moreH h m)) :
    (leaveL h).length ≤ (leaveL (moreH h m)).length ∧ (leaveL (moreH h m)).length ≤ (leaveL h).length + 1 ∧ (leaveL (moreH h m) = [] → (truthsL (moreH h m) []).isEmpty = false ∧ Sub (moreH h m) h) := by
  obtain ⟨c, hc, c1, c2, c3⟩ := leave_some hS
  obtain ⟨d, hd, d1, d2, d3⟩ := leave_some hX
  have hlen : (moreH h m).readings.length = h.readings.length + 1 := by simp [moreH]
  rw [hlen] at d2 d3
  have c2' := (inc_pairwise _ _).1 c2
  have d2' := (inc_pairwise _ _).1 d2
  rw [hc, hd]
  refine ⟨?_, ?_, fun e => ?_⟩
  · have hq : canL h (d.filter (· != (h.readings.length : Int))) = true := by
      rw [canL_iff hX] at d1
      obtain ⟨t, t1, t2⟩ := d1
      rw [canL_iff hS]
      refine ⟨t, t1, ?_⟩
      rw [okT_iff]
      intro i hi
      rcases (okT_iff h d t).1 (more_ok.1 t2).1 i hi with k | k
      · left
        have : (i : Int) ∈ d := by simpa using k
        simpa using ⟨this, by omega⟩
      · exact .inr k
    have hi : Inc h.readings.length 0 (d.filter (· != (h.readings.length : Int))) := by
      rw [inc_pairwise]
      refine ⟨d2'.1.filter _, fun x hx => ?_⟩
      obtain ⟨x1, x2⟩ := List.mem_filter.1 hx
      have := d2'.2 x x1
      have x3 : x ≠ (h.readings.length : Int) := by simpa using x2
      omega
    have := c3 _ hi hq
    have hle := List.length_filter_le (· != (h.readings.length : Int)) d
    simp only [shorter, Bool.or_eq_false_iff, decide_eq_false_iff_not] at this
    omega
  · have hq : canL (moreH h m) (c ++ [(h.readings.length : Int)]) = true := by
      rw [canL_iff hS] at c1
      obtain ⟨t, t1, t2⟩ := c1
      rw [canL_iff hX]
      refine ⟨t, t1, more_ok.2 ⟨?_, .inl (by simp)⟩⟩
      rw [okT_iff]
      intro i hi
      rcases (okT_iff h c t).1 t2 i hi with k | k
      · left
        have : (i : Int) ∈ c := by simpa using k
        simp [this]
      · exact .inr k
    have hi : Inc (h.readings.length + 1) 0 (c ++ [(h.readings.length : Int)]) := by
      rw [inc_pairwise]
      refine ⟨List.pairwise_append.2 ⟨c2'.1, List.pairwise_singleton _ _, fun a ha b hb => ?_⟩, fun x hx => ?_⟩
      · obtain rfl := List.mem_singleton.1 hb
        have := c2'.2 a ha
        omega
      · rcases List.mem_append.1 hx with hx | hx
        · have := c2'.2 x hx
          omega
        · obtain rfl := List.mem_singleton.1 hx
          omega
    have := d3 _ hi hq
    simp only [shorter, Bool.or_eq_false_iff, decide_eq_false_iff_not, List.length_append, List.length_singleton] at this
    omega
  · have hn := (leave_nil hX).1 (hd.trans e)
    refine ⟨hn, hX, hS, rfl, rfl, rfl, rfl, rfl, fun t ht => ?_⟩
    obtain ⟨k1, k2⟩ := (truths_mem hX [] t).1 ht
    exact (truths_mem hS [] t).2 ⟨k1, (more_ok.1 k2).1⟩

/-! ### Wider ranges -/
structure Wider (h x : HeapD) : Prop where
  sx : Sound x
  sh : Sound h
  last : x.last = h.last
  size : x.size = h.size
  cool : x.cool = h.cool
  die : x.die = h.die
  burn : x.burn = h.burn
  turns : x.turns = h.turns
  start : x.start.1 ≤ h.start.1 ∧ h.start.2 ≤ x.start.2
  wets : x.wet.length = h.wet.length
  wet : ∀ i, i < h.wet.length → (x.wet.getD i (0, 0)).1 ≤ (h.wet.getD i (0, 0)).1 ∧ (h.wet.getD i (0, 0)).2 ≤ (x.wet.getD i (0, 0)).2
  rdgs : x.readings.length = h.readings.length
  rdg : ∀ i, i < h.readings.length → (x.readings.getD i (0, 0, 0)).1 = (h.readings.getD i (0, 0, 0)).1 ∧ (x.readings.getD i (0, 0, 0)).2.1 = (h.readings.getD i (0, 0, 0)).2.1 ∧ (h.readings.getD i (0, 0, 0)).2.2 ≤ (x.readings.getD i (0, 0, 0)).2.2

theorem Wider.listed {h x : HeapD} (hw : Wider h x) {t : Int × List Int} (hl : listedT h t = true) : listedT x t = true := by
  obtain ⟨h1, h2, h3⟩ := (listedT_iff hw.sh t).1 hl
  rw [listedT_iff hw.sx]
  have := hw.start
  refine ⟨h1.trans hw.wets.symm, by omega, fun i hi => ?_⟩
  rw [hw.wets] at hi
  have := hw.wet i hi
  have := h3 i hi
  omega
theorem Wider.ok {h x : HeapD} (hw : Wider h x) {out : List Int} {t : Int × List Int} (hk : okT h out t = true) : okT x out t = true := by
  rw [okT_iff] at hk ⊢
  intro i hi
  rw [hw.rdgs] at hi
  rcases hk i hi with k | k
  · exact .inl k
  · right
    obtain ⟨e1, e2, e3⟩ := hw.rdg i hi
    have eh : heats x t x.turns = heats h t h.turns := by
      unfold Cou.heats
      rw [hw.size, hw.cool, hw.turns]
    rw [eh]
    simp only [rightR, inB, Bool.and_eq_true, decide_eq_true_eq, e1, e2] at k ⊢
    omega
theorem wider_plain {h x : HeapD} (hw : Wider h x) : (leaveL x).length ≤ (leaveL h).length ∧ (leaveL h = [] → (truthsL h []).isEmpty = false ∧ Sub h x) := by
  obtain ⟨c, hc, c1, c2, c3⟩ := leave_some hw.sh
  obtain ⟨d, hd, d1, d2, d3⟩ := leave_some hw.sx
  rw [hc, hd]
  refine ⟨?_, fun e => ⟨(leave_nil hw.sh).1 (hc.trans e), hw.sh, hw.sx, hw.last.symm, hw.size.symm, hw.cool.symm, hw.die.symm, hw.burn.symm, fun t ht => ?_⟩⟩
  · have hq : canL x c = true := by
      rw [canL_iff hw.sh] at c1
      obtain ⟨t, t1, t2⟩ := c1
      exact (canL_iff hw.sx c).2 ⟨t, hw.listed t1, hw.ok t2⟩
    have := d3 c (by rw [hw.rdgs]; exact c2) hq
    simp only [shorter, Bool.or_eq_false_iff, decide_eq_false_iff_not] at this
    omega
  · obtain ⟨k1, k2⟩ := (truths_mem hw.sh [] t).1 ht
    exact (truths_mem hw.sx [] t).2 ⟨hw.listed k1, hw.ok k2⟩


/-! ### A truth, and what is said of all -/
theorem ne_of_mem {h : HeapD} {t : Int × List Int} (hm : t ∈ truthsL h []) : (truthsL h []).isEmpty = false := by
  cases hl : truthsL h [] with
  | nil => rw [hl] at hm; cases hm
  | cons a l => rfl

theorem first_of_truth {h : HeapD} (hS : Sound h) {t : Int × List Int} (hm : t ∈ truthsL h []) : firstS h = none := by
  cases hf : firstS h with
  | none => rfl
  | some n =>
    obtain ⟨_, _, h3⟩ := first_some hS hf
    obtain ⟨k1, k2⟩ := (truths_mem hS [] t).1 hm
    have : t ∈ truthsL (withR h (n + 1)) [] := by
      refine (truths_mem (withR_sound hS (n + 1)) [] t).2 ⟨k1, ?_⟩
      rw [okT_all, List.all_eq_true] at k2 ⊢
      intro x hx
      exact k2 x (List.mem_of_mem_take hx)
    rw [ne_of_mem this] at h3
    cases h3

/-- A heap with readings that are right in a truth: the truth is one of it. -/
theorem looked_plain {h : HeapD} (hS : Sound h) {t : Int × List Int} (hl : listedT h t = true) {R : List Rdg} (h5 : R.length ≤ 5)
    (hR : ∀ x ∈ R, ((0 ≤ x.1 ∧ x.1 ≤ h.last) ∧ (0 ≤ x.2.1 ∧ x.2.1 ≤ 1000) ∧ (0 ≤ x.2.2 ∧ x.2.2 ≤ 50)) ∧ rightR x (heats h t h.turns) = true) :
    Sound { h with readings := R } ∧ t ∈ truthsL { h with readings := R } [] := by
  have hX : Sound { h with readings := R } :=
    ⟨hS.last0, hS.last9, hS.size0, hS.size1, hS.cool0, hS.cool1, hS.die0, hS.burn0, hS.burn1, hS.start0, hS.start1, hS.start2, hS.wetLen, hS.turns, hS.wet, fun x hx => (hR x hx).1, h5, hS.many⟩
  refine ⟨hX, (truths_mem hX [] t).2 ⟨hl, ?_⟩⟩
  rw [okT_all, List.all_eq_true]
  exact fun x hx => (hR x hx).2

/-- What is said of all truths is so in each. -/
theorem truth_plain {h : HeapD} (hS : Sound h) {t : Int × List Int} (hm : t ∈ truthsL h []) {turns : List Int} (htu : isTurns h.last turns = true) :
    askErr h turns = 0 ∧ playErr h t turns = 0 ∧ leaveL h = [] ∧ firstE h = 7 ∧ proveR h t = true ∧ (boundsOut h turns).length = (h.last + 1).toNat ∧
    (∀ i, i < (h.last + 1).toNat → ((boundsOut h turns).getD i (0, 0)).1 ≤ (heats h t turns).getD i 0 ∧ (heats h t turns).getD i 0 ≤ ((boundsOut h turns).getD i (0, 0)).2) ∧
    (keepsV h turns = 1 → keptL h (heats h t turns) = true) ∧ (keepsV h turns = 2 → keptL h (heats h t turns) = false) ∧ 1 ≤ keepsV h turns ∧ keepsV h turns ≤ 3 := by
  have hn := ne_of_mem hm
  obtain ⟨k1, k2⟩ := (truths_mem hS [] t).1 hm
  have hf := fault_sound hS
  have ha : askErr h turns = 0 := by rw [ask_turns hS htu, hn]; rfl
  have hbo : boundsOut h turns = boundsL (h.last + 1).toNat (everyL h turns) := by unfold boundsOut; rw [if_pos ha]
  have hy := (mem_everyL h turns _).2 ⟨t, hm, rfl⟩
  refine ⟨ha, ?_, (leave_nil hS).2 hn, ?_, ?_, ?_, ?_, ?_⟩
  · unfold playErr
    rw [if_neg (by rw [hf]; simp), if_neg (by rw [k1, htu]; simp)]
  · unfold firstE
    rw [if_neg (by rw [hf]; simp), first_of_truth hS hm]
    rfl
  · unfold proveR isTruth
    rw [okT_all] at k2
    rw [hf, k1, k2]
    rfl
  · rw [hbo]; exact boundsL_len (every_ne hn)
  · intro i hi
    rw [hbo]
    exact (boundsL_at (every_ne hn) hi).1 _ hy
  · unfold keepsV
    rw [if_neg (by rw [ha]; simp)]
    by_cases c1 : (everyL h turns).all (keptL h) = true
    · rw [if_pos c1]
      rw [List.all_eq_true] at c1
      exact ⟨fun _ => c1 _ hy, (fun e => by cases e), by decide, by decide⟩
    · rw [if_neg c1]
      by_cases c2 : (everyL h turns).any (keptL h) = true
      · rw [if_pos c2]
        exact ⟨(fun e => by cases e), (fun e => by cases e), by decide, by decide⟩
      · rw [if_neg c2]
        refine ⟨(fun e => by cases e), fun _ => ?_, by decide, by decide⟩
        cases hk : keptL h (heats h t turns)
        · rfl
        · exact absurd (List.any_eq_true.2 ⟨_, hy, hk⟩) c2

end Go.Proofs.Ytoibfafmnaooaaa

/-
  The plain law of TopKnown. No program in sight.
-/
import Derived.WalkKit
import Derived.WalkLawsBesides
import Derived.WalkSpells
import Derived.Outline
import Derived.Handy
import Derived.KernelRfl
import Derived.Lib.Hide
import Derived.Test.YtdjgikcnmokjkaaRG
namespace Go.Proofs.Ytdjgikcnmokjkaa
open Cou

/-- The law's ledger: no notes, the widest box. -/
def wideL (f : FieldD) (rate : Int) : LedgerD := { field := f, rate := rate, box := (0, 2000), notes := [] }

theorem ask0 {f : FieldD} (h0 : faultF f = 0) (hts : truthsF f [] ≠ []) : askFErr f true = 0 := by
  unfold askFErr
  rw [if_neg (by rw [h0]; simp), if_neg (by simp), if_neg (by simpa using hts)]
theorem askFErr_in {f : FieldD} {i : Nat} (hi : (i : Int) < f.weeders) : inB (i : Int) 0 (f.weeders - 1) = true := by unfold inB; simp; omega

theorem wide_none {f : FieldD} {rate : Int} (h0 : faultF f = 0) (hts : truthsF f [] = []) : faultW (wideL f rate) = 11 := by
  have h : askFErr f true = 11 := by
    unfold askFErr
    rw [if_neg (by rw [h0]; simp), if_neg (by simp), if_pos (by rw [hts]; rfl)]
  unfold faultW
  show (if 5 < ([] : List (Int × Rng)).length then (3 : Int) else if askFErr f true ≠ 0 then askFErr f true else _) = 11
  rw [if_neg (by simp), if_pos (by rw [h]; simp), h]

theorem sumI_pos : ∀ l : List Int, (∀ x ∈ l, 0 ≤ x) → 0 ≤ sumI l := by
  intro l
  induction l with
  | nil => intro _; exact Int.le_refl _
  | cons x l ih =>
    intro h
    have h1 := h x (by simp)
    have h2 := ih (fun y hy => h y (by simp [hy]))
    rw [sumI_cons]
    omega

theorem wide_some {f : FieldD} {rate : Int} (h0 : faultF f = 0) (hts : truthsF f [] ≠ []) (r0 : 1 ≤ rate) (r1 : rate ≤ 50) : faultW (wideL f rate) = 0 := by
  have h := ask0 h0 hts
  have hS := soundF_of h0
  obtain ⟨t, ht⟩ := List.exists_mem_of_ne_nil _ hts
  have hpos : possibleL (wideL f rate) (upto (wideL f rate).notes.length) = true := by
    unfold possibleL
    rw [List.any_eq_true]
    refine ⟨duesV rate t, mem_duesT.2 ⟨t, ht, rfl⟩, ?_⟩
    have hal : ∀ r ∈ alone (wideL f rate) (upto (wideL f rate).notes.length) (duesV rate t), r.1 = 0 ∧ 0 ≤ r.2 := fun r hr => by
      obtain ⟨i, hi, rfl⟩ := List.mem_map.1 hr
      have hw := hS.weed1
      have hi3 : i < 3 := by
        have := List.mem_range.1 hi
        have : i < f.weeders.toNat := this
        omega
      have := duesV_bd (by omega : (0 : Int) ≤ rate) r1 t (by rw [truthsF_len ht]; have := hS.rows1; omega) i hi3
      show (knownL (wideL f rate) _ i _).1 = 0 ∧ 0 ≤ (knownL (wideL f rate) _ i _).2
      unfold knownL
      simp only [wideL, List.length_nil, List.range_zero, List.filter_nil, List.foldl_nil]
      exact ⟨trivial, this.1⟩
    unfold canPay
    simp only [Bool.and_eq_true, List.all_eq_true, decide_eq_true_eq]
    have hlow : lowL (wideL f rate) (upto (wideL f rate).notes.length) (duesV rate t) = 0 := by
      unfold lowL
      generalize alone (wideL f rate) (upto (wideL f rate).notes.length) (duesV rate t) = rs at hal
      induction rs with
      | nil => rfl
      | cons r rs ih =>
        rw [List.map_cons, sumI_cons, ih (fun x hx => hal x (by simp [hx])), (hal r (by simp)).1]
        rfl
    refine ⟨⟨fun r hr => ?_, ?_⟩, ?_⟩
    · have := hal r hr; omega
    · rw [hlow]; show (0 : Int) ≤ 2000; omega
    · show (0 : Int) ≤ highL _ _ _
      unfold highL
      refine sumI_pos _ fun x hx => ?_
      obtain ⟨r, hr, rfl⟩ := List.mem_map.1 hx
      exact (hal r hr).2
  have harg : argsB (wideL f rate) = true := by
    unfold argsB wideL amountsB inB
    simp [r0, r1]
  unfold faultW
  rw [if_neg (by simp [wideL]), if_neg (by show ¬ askFErr f true ≠ 0; rw [h]; simp), if_neg (by rw [harg]; simp), if_neg (by rw [hpos]; simp)]

/-- The rows of the first weeders together, by bits. -/
def orTo (f : FieldD) : Nat → Nat
  | 0 => 0
  | k + 1 => orTo f k ||| ofBits (askF f (k : Int))
theorem orTo_lt {f : FieldD} : ∀ k, orTo f k < 2 ^ f.rows.toNat := by
  intro k
  induction k with
  | zero => exact Nat.two_pow_pos _
  | succ k ih => exact Nat.or_lt_two_pow ih (ofBits_lt (askF_spec f k).2.2.1)
theorem orTo_has {f : FieldD} {i : Nat} {j : Nat} (h : (j : Int) ∈ askF f (i : Int)) : ∀ k, i < k → (orTo f k).testBit j = true := by
  intro k
  induction k with
  | zero => intro h; omega
  | succ k ih =>
    intro hik
    unfold orTo
    rw [Nat.testBit_or]
    by_cases e : i = k
    · subst e
      have hs := ((inc_pairwise _ _).1 (askF_spec f (i : Int)).2.2.1).2
      rw [ofBits_at _ _ (fun x hx => by have := hs x hx; omega)]
      simp [h]
    · rw [ih (by omega)]; rfl
/-- The fewest rows for all are at most as many as those of each weeder together. -/
theorem settle_union (f : FieldD) : (settleF f).length ≤ (bitsL (orTo f f.weeders.toNat)).length := by
  have hb : bitsL (orTo f f.weeders.toNat) = bitsTo (orTo f f.weeders.toNat) f.rows.toNat := bitsL_eq (orTo_lt _)
  rw [hb]
  refine settle_le f (inc_bitsTo _ _) fun i hi r hr => ?_
  have hs := ((inc_pairwise _ _).1 (askF_spec f (i : Int)).2.2.1).2 r hr
  rw [mem_bitsTo]
  refine ⟨r.toNat, by omega, orTo_has (by rw [show ((r.toNat : Nat) : Int) = r from by omega]; exact hr) _ hi, by omega⟩

/-- The rows that settle all settle each weeder. -/
theorem prove_settle {f : FieldD} (h0 : faultF f = 0) (hts : truthsF f [] ≠ []) {i : Nat} (hi : (i : Int) < f.weeders) : proveAskB f (i : Int) (settleF f) = true := by
  have hS := soundF_of h0
  have hr0 := hS.rows0
  obtain ⟨_, h1, h2, _⟩ := settleF_spec f
  unfold proveAskB
  rw [askFErr_in hi, ask0 h0 hts, settlesAll_iff.1 h1 i (by omega)]
  have : isTurns (f.rows - 1) (settleF f) = true := (turns_inc (by omega) _).2 (by rw [show (f.rows - 1 + 1).toNat = f.rows.toNat from by omega]; exact h2)
  rw [this]
  rfl

/-- The second truth, made like the first one in the first of some rows. -/
def mixL (r a b : List Int) (k : Nat) : List Int := (r.take k).foldl (fun m i => m.set i.toNat (a.getD i.toNat 0)) b
theorem mixL_succ {r a b : List Int} {k : Nat} (hk : k < r.length) : mixL r a b (k + 1) = (mixL r a b k).set r[k].toNat (a.getD r[k].toNat 0) := by
  unfold mixL
  rw [List.take_succ_eq_append_getElem hk, List.foldl_append]
  rfl
theorem mixL_len (r a b : List Int) (k : Nat) : (mixL r a b k).length = b.length := by
  unfold mixL
  generalize r.take k = s
  induction s generalizing b with
  | nil => rfl
  | cons x s ih => rw [List.foldl_cons, ih]; simp

/-- The second truth of the law. -/
def otherL (f : FieldD) (r a b : List Int) : List Int := if proveTruthB f (mixL r a b r.length) then mixL r a b r.length else b
theorem prove_mem {f : FieldD} {l : List Int} (h : proveTruthB f l = true) : l ∈ truthsF f [] := by
  obtain ⟨h1, h2, h3, h4⟩ := proveTruth_bd h
  have hS := soundF_of h1
  refine List.mem_filter.2 ⟨mem_allF.2 ⟨by omega, fun i hi => ?_⟩, h4⟩
  have := h3 (l.getD i 0) (by rw [show l.getD i 0 = l[i]'(by omega) from by simp [List.getD, show i < l.length by omega]]; exact List.getElem_mem _)
  omega
theorem mem_prove {f : FieldD} (h0 : faultF f = 0) {l : List Int} (h : l ∈ truthsF f []) : proveTruthB f l = true := by
  obtain ⟨h1, h2⟩ := truthsF_mem h
  obtain ⟨h3, h4⟩ := mem_allF.1 h1
  have hS := soundF_of h0
  have hr := hS.rows0
  have hw := hS.weed0
  unfold proveTruthB
  simp only [Bool.and_eq_true, decide_eq_true_eq, List.all_eq_true]
  refine ⟨h0, by omega, fun x hx => ?_, h2⟩
  obtain ⟨i, hi, rfl⟩ := List.getElem_of_mem hx
  have := h4 i (by omega)
  rw [show l.getD i 0 = l[i] from by simp [List.getD, hi]] at this
  unfold saysB inB
  simp
  omega
theorem otherL_mem {f : FieldD} {r a b : List Int} (hb : b ∈ truthsF f []) : otherL f r a b ∈ truthsF f [] := by
  unfold otherL
  split
  · rename_i h; exact prove_mem h
  · exact hb

/-- Whether two truths say the same of those of the first rows that are in a set. -/
def alikeTo (bits : Nat) (a b : List Int) (k : Nat) : Bool := (List.range k).all fun i => !bits.testBit i || a.getD i 0 == b.getD i 0
theorem alikeTo_succ (bits : Nat) (a b : List Int) (k : Nat) : alikeTo bits a b (k + 1) = (alikeTo bits a b k && (!bits.testBit k || a.getD k 0 == b.getD k 0)) := by
  unfold alikeTo
  rw [List.range_succ, List.all_append]
  simp
theorem alike_same {n : Nat} {r a b : List Int} (hr : Inc n 0 r) (h : alikeTo (ofBits r) a b n = true) : sameOn r a b = true := by
  rw [sameOn_iff]
  intro x hx
  have hs := ((inc_pairwise _ _).1 hr).2
  have hxb := hs x hx
  unfold alikeTo at h
  have := List.all_eq_true.1 h x.toNat (List.mem_range.2 (by omega))
  rw [ofBits_at _ _ (fun x hx => by have := hs x hx; omega), show ((x.toNat : Nat) : Int) = x from by omega, show r.contains x = true from by simpa using hx] at this
  simpa using this

/-- If two truths are alike in the rows that settle, all did as many rows in both. -/
theorem alike_done {f : FieldD} {a b : List Int} (ha : a ∈ truthsF f []) (hb : b ∈ truthsF f []) (h : alikeTo (ofBits (settleF f)) a b f.rows.toNat = true) {i : Nat} (hi : i < f.weeders.toNat) : doneF f a (i : Int) = doneF f b (i : Int) := by
  obtain ⟨_, h1, h2, _⟩ := settleF_spec f
  exact settlesF_iff.1 (settlesAll_iff.1 h1 i hi) a ha b hb (alike_same h2 h)

theorem rngF_has {f : FieldD} {ls : List (List Int)} {i : Int} : ∀ k, k ≤ ls.length → ∀ j, j < k → (hj : j < ls.length) → (rngF f ls i k).1 ≤ doneF f ls[j] i ∧ doneF f ls[j] i ≤ (rngF f ls i k).2 := by
  intro k
  induction k with
  | zero => intro _ j hj; omega
  | succ k ih =>
    intro hk j hj hjl
    rw [rngF_succ (by omega)]
    unfold wid
    simp only
    by_cases e : j = k
    · subst e; omega
    · have := ih (by omega) j (by omega) hjl
      omega
theorem doneL_len (f : FieldD) : (doneL f).length = f.weeders.toNat := by simp [doneL]
theorem doneL_get (f : FieldD) {i : Nat} (hi : i < (doneL f).length) : (doneL f)[i] = rngF f (truthsF f []) (i : Int) (truthsF f []).length := by
  simp [doneL]
/-- How many rows a weeder did is within the bounds. -/
theorem doneL_has {f : FieldD} {i : Nat} (hi : i < (doneL f).length) {a : List Int} (ha : a ∈ truthsF f []) : (doneL f)[i].1 ≤ doneF f a (i : Int) ∧ doneF f a (i : Int) ≤ (doneL f)[i].2 := by
  rw [doneL_get]
  obtain ⟨j, hj, rfl⟩ := List.getElem_of_mem ha
  exact rngF_has _ (Nat.le_refl _) j hj hj

/-- The due of a weeder. -/
theorem dueV_len (f : FieldD) (rate : Int) (hS : SoundF f) (a : List Int) : (dueV (wideL f rate) a).length = f.weeders.toNat := by
  unfold dueV
  rw [List.length_take, duesV_len]
  have := hS.weed1
  show min f.weeders.toNat 3 = _
  omega
theorem dueV_get {f : FieldD} {rate : Int} (hS : SoundF f) {a : List Int} (ha : a ∈ truthsF f []) {i : Nat} (hi : i < (dueV (wideL f rate) a).length) : (dueV (wideL f rate) a)[i] = rate * doneF f a (i : Int) := by
  have hl := dueV_len f rate hS a
  have hw := hS.weed1
  rw [← dues_done hS rate (truthsF_len ha) (i := i) (by omega)]
  have h3 : i < (duesV rate a).length := by rw [duesV_len]; omega
  have e : (dueV (wideL f rate) a)[i]? = (duesV rate a)[i]? := by
    show (List.take f.weeders.toNat (duesV rate a))[i]? = _
    rw [List.getElem?_take, if_pos (by omega)]
  rw [List.getElem?_eq_getElem hi, List.getElem?_eq_getElem h3] at e
  injection e with e
  rw [e]
  simp [List.getD, h3]
theorem dueErr_ok {f : FieldD} {rate : Int} (h0 : faultF f = 0) (r0 : 1 ≤ rate) (r1 : rate ≤ 50) {a : List Int} (ha : a ∈ truthsF f []) : dueErr (wideL f rate) a = 0 := by
  unfold dueErr
  rw [if_neg (by rw [wide_some h0 (List.ne_nil_of_mem ha) r0 r1]; simp), if_neg (by show ¬ proveTruthB f a = false; rw [mem_prove h0 ha]; simp)]

/-- **The plain law.** -/
theorem known_plain {f : FieldD} {rate : Int} (hS : SoundF f) {a b : List Int} (ha : a ∈ truthsF f []) (hb : b ∈ truthsF f []) {i : Nat} (hi : i < (doneL f).length) (hx : i < (dueV (wideL f rate) a).length) (hy : i < (dueV (wideL f rate) b).length) :
    (alikeTo (ofBits (settleF f)) a b f.rows.toNat = true → (dueV (wideL f rate) a)[i] = (dueV (wideL f rate) b)[i]) ∧
    ((doneL f)[i].1 = (doneL f)[i].2 → (dueV (wideL f rate) a)[i] = (dueV (wideL f rate) b)[i] ∧ (dueV (wideL f rate) a)[i] = rate * (doneL f)[i].1) := by
  rw [dueV_get hS ha, dueV_get hS hb]
  constructor
  · intro h
    rw [alike_done ha hb h (by rw [doneL_len] at hi; exact hi)]
  · intro h
    have h1 := doneL_has hi ha
    have h2 := doneL_has hi hb
    have e1 : doneF f a (i : Int) = (doneL f)[i].1 := by omega
    have e2 : doneF f b (i : Int) = (doneL f)[i].1 := by omega
    rw [e1, e2]
    exact ⟨rfl, rfl⟩

/-! ### The example -/
def exF : FieldD := { rows := 2, weeders := 1, left := (0, 1), tallies := [] }
def exL : LedgerD := { field := exF, rate := 5, box := (0, 0), notes := [] }
theorem ex_fault : faultW exL = 0 := by decide +kernel
theorem ex_settle : settleF exF = [0, 1] := by decide +kernel
theorem ex_due : dueErr exL [0, -1] = 0 ∧ dueV exL [0, -1] = [5] := by decide +kernel

end Go.Proofs.Ytdjgikcnmokjkaa

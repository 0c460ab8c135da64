/-
  Plain, for WageWeed: a ledger without notes, with a box from 0 to 2000: what is earned is the rate times what is done; what is owed can be 0.
-/
import Derived.Test.YtdjgikcnmokjkaaGreatVK
namespace Go.Proofs.YtdjgikcnmokjkaaGreat
open Go.RowKit Go.RG Go.SL Go.Shelf Cou Go.TB
set_option maxHeartbeats 400000
set_option maxRecDepth 10000

def freeG (l : LedgerD) : LedgerD := ⟨l.field, l.rate, (0, 2000), []⟩
theorem free_sound {l : LedgerD} (hS : SoundL l) : SoundL (freeG l) where
  field := hS.field
  some := hS.some
  rate := hS.rate
  box := by simp [freeG]
  many := by simp [freeG]
  notes := fun x hx => by cases hx
theorem free_dues (l : LedgerD) : duesT (freeG l) = duesT l := duesT_left rfl rfl

theorem free_can {l : LedgerD} (hS : SoundL l) {d : List Int} (hd : d ∈ duesT l) : canPay (freeG l) [] d = true := by
  have hd' : d ∈ duesT (freeG l) := by rw [free_dues]; exact hd
  have hF := soundF_of hS.field
  have h := canPay_all (free_sound hS) hd'
  have e : (upto (freeG l).notes.length) = [] := rfl
  rw [e] at h
  rw [h, decide_eq_true_eq]
  have := hF.weed1
  exact (sumI_take3 (duesT_three l d hd) (fun i hi => (duesT_bd hS hd i hi).1) (show l.field.weeders.toNat ≤ 3 by omega) (dues_over hS hd)).1

theorem dues_some {l : LedgerD} (hS : SoundL l) : ∃ d, d ∈ duesT l := by
  obtain ⟨t, ht⟩ := List.exists_mem_of_ne_nil _ hS.some
  exact ⟨duesV l.rate t, mem_duesT.2 ⟨t, ht, rfl⟩⟩

theorem free_fault {l : LedgerD} (h : faultW l = 0) : faultW (freeG l) = 0 := by
  obtain ⟨hS, _⟩ := faultW_sound h
  obtain ⟨d, hd⟩ := dues_some hS
  have hc := free_can hS hd
  unfold faultW at h ⊢
  split at h
  · omega
  split at h
  · omega
  rename_i h2
  have hr := hS.rate
  have g : argsB (freeG l) = true := by
    have e : inB l.rate 1 50 = true := by unfold inB; simp; omega
    show (inB l.rate 1 50 && (amountsB (0, 2000) && true)) = true
    rw [e]
    rfl
  have p : possibleL (freeG l) (upto (freeG l).notes.length) = true := by
    unfold possibleL
    rw [free_dues, List.any_eq_true]
    exact ⟨d, hd, hc⟩
  rw [if_neg (show ¬ 5 < (freeG l).notes.length by simp [freeG]), if_neg (show ¬ askFErr (freeG l).field true ≠ 0 from h2), if_neg (by rw [g]; simp), if_neg (by rw [p]; simp)]
theorem free_asked {l : LedgerD} (h : faultW l = 0) : askedErr (freeG l) true = 0 := by
  obtain ⟨hS, _⟩ := faultW_sound h
  obtain ⟨d, hd⟩ := dues_some hS
  have p : possibleL (freeG l) [] = true := by
    unfold possibleL
    rw [free_dues, List.any_eq_true]
    exact ⟨d, hd, free_can hS hd⟩
  unfold askedErr
  rw [free_fault h, p]
  simp

theorem rngF_hull {f : FieldD} {ls : List (List Int)} {i : Int} (h0 : 0 < ls.length) : ∀ k, k < ls.length → HullOf (fun y => ∃ a ∈ ls.take (k + 1), y = (doneF f a i, doneF f a i)) (rngF f ls i (k + 1)) := by
  intro k
  induction k with
  | zero =>
    intro _
    rw [rngF_succ h0]
    have e : wid (rngF f ls i 0) (doneF f ls[0] i) = (doneF f ls[0] i, doneF f ls[0] i) := by
      unfold rngF wid
      simp [List.getD, h0]
    rw [e]
    refine (HullOf.one _).congr fun x => ?_
    rw [List.take_one, List.head?_eq_getElem?, List.getElem?_eq_getElem h0]
    simp
  | succ k ih =>
    intro hk
    rw [rngF_succ hk]
    refine ((ih (by omega)).add (doneF f ls[k + 1] i, doneF f ls[k + 1] i)).congr fun x => ?_
    rw [List.take_succ_eq_append_getElem hk]
    constructor
    · rintro (⟨a, ha, rfl⟩ | rfl)
      · exact ⟨a, List.mem_append_left _ ha, rfl⟩
      · exact ⟨_, List.mem_append_right _ (List.mem_singleton.2 rfl), rfl⟩
    · rintro ⟨a, ha, rfl⟩
      rcases List.mem_append.1 ha with h | h
      · exact .inl ⟨a, h, rfl⟩
      · rw [List.mem_singleton.1 h]; exact .inr rfl
theorem doneL_len (f : FieldD) : (doneL f).length = f.weeders.toNat := by simp [doneL]
theorem doneL_hull {f : FieldD} (h : truthsF f [] ≠ []) {i : Nat} (hi : i < f.weeders.toNat) : HullOf (fun y => ∃ a ∈ truthsF f [], y = (doneF f a (i : Int), doneF f a (i : Int))) ((doneL f).getD i (0, 0)) := by
  have h0 : 0 < (truthsF f []).length := List.length_pos_iff.2 h
  have := rngF_hull (f := f) (i := (i : Int)) h0 ((truthsF f []).length - 1) (by omega)
  rw [Nat.sub_add_cancel h0, List.take_length] at this
  rw [show (doneL f).getD i (0, 0) = rngF f (truthsF f []) (i : Int) (truthsF f []).length from by simp [doneL, List.getD, hi]]
  exact this
theorem HullOf.times {S : Rng → Prop} {r : Rng} (h : HullOf S r) {k : Int} (hk : 0 ≤ k) : HullOf (fun y => ∃ x, S x ∧ y = (k * x.1, k * x.2)) (k * r.1, k * r.2) := by
  obtain ⟨⟨⟨a, ha, ha'⟩, h1⟩, ⟨b, hb, hb'⟩, h2⟩ := h
  refine ⟨⟨⟨_, ⟨a, ha, rfl⟩, by rw [ha']⟩, ?_⟩, ⟨_, ⟨b, hb, rfl⟩, by rw [hb']⟩, ?_⟩
  · rintro x ⟨y, hy, rfl⟩
    exact Int.mul_le_mul_of_nonneg_left (h1 y hy) hk
  · rintro x ⟨y, hy, rfl⟩
    exact Int.mul_le_mul_of_nonneg_left (h2 y hy) hk

/-- What is earned in a free ledger. -/
theorem free_earned {l : LedgerD} (hS : SoundL l) {i : Nat} (hi : i < l.field.weeders.toNat) :
    (bndL partE (freeG l) (duesT (freeG l))).getD i (0, 0) = (l.rate * ((doneL l.field).getD i (0, 0)).1, l.rate * ((doneL l.field).getD i (0, 0)).2) := by
  have hF := soundF_of hS.field
  have h3 : i < 3 := by have := hF.weed1; omega
  obtain ⟨d, hd⟩ := dues_some hS
  have g1 := bnd_hull (l := freeG l) ⟨d, by rw [free_dues]; exact hd, free_can hS hd⟩ partE hi
  have g2 := (doneL_hull hS.some hi).times (show 0 ≤ l.rate by have := hS.rate; omega)
  refine g1.unique (g2.congr fun x => ?_)
  rw [free_dues]
  constructor
  · rintro ⟨y, ⟨a, ha, rfl⟩, rfl⟩
    refine ⟨duesV l.rate a, mem_duesT.2 ⟨a, ha, rfl⟩, free_can hS (mem_duesT.2 ⟨a, ha, rfl⟩), ?_⟩
    unfold partE
    rw [dues_done hF l.rate (truthsF_len ha) h3]
  · rintro ⟨d, hd, _, rfl⟩
    obtain ⟨a, ha, rfl⟩ := mem_duesT.1 hd
    refine ⟨_, ⟨a, ha, rfl⟩, ?_⟩
    unfold partE
    rw [dues_done hF l.rate (truthsF_len ha) h3]

theorem free_owed {l : LedgerD} (hS : SoundL l) {i : Nat} (hi : i < l.field.weeders.toNat) : ((bndL partO (freeG l) (duesT (freeG l))).getD i (0, 0)).1 = 0 := by
  have hF := soundF_of hS.field
  have hw := hF.weed1
  obtain ⟨d, hd⟩ := dues_some hS
  have g1 := bnd_hull (l := freeG l) ⟨d, by rw [free_dues]; exact hd, free_can hS hd⟩ partO hi
  have key : ∀ d ∈ duesT l, ((paidL (freeG l) [] d).getD i (0, 0)).2 = d.getD i 0 := by
    intro d hd
    have hb := duesT_bd hS hd i (by omega)
    rw [paidL_get (freeG l) [] d hi]
    have hz : ∀ j, knownL (freeG l) [] j (d.getD j 0) = (0, d.getD j 0) := fun j => by
      rw [← kn_known]
      rfl
    have hlow : lowL (freeG l) [] d = 0 := by
      unfold lowL alone
      rw [List.map_map]
      have : ((fun (r : Rng) => r.1) ∘ fun i => knownL (freeG l) [] i (d.getD i 0)) = fun _ => (0 : Int) := by
        funext j
        show (knownL (freeG l) [] j (d.getD j 0)).1 = 0
        rw [hz]
      rw [this]
      have : ∀ n : Nat, sumI ((List.range n).map fun _ => (0 : Int)) = 0 := by
        intro n
        induction n with
        | zero => rfl
        | succ n ih => rw [List.range_succ, List.map_append, List.map_singleton, sumI_snoc, ih]; rfl
      exact this _
    rw [hz i, hlow]
    generalize d.getD i 0 = x at *
    unfold bothR
    simp [freeG]
    omega
  obtain ⟨⟨y, ⟨e, he, _, rfl⟩, hy⟩, _⟩ := g1.low
  rw [free_dues] at he
  rw [← hy]
  unfold partO
  simp only
  rw [key e he]
  omega

/-- What is earned is within what is earned in a free ledger. -/
theorem free_inside {l : LedgerD} (h : askedErr l true = 0) {i : Nat} (hi : i < l.field.weeders.toNat) :
    ((bndL partE (freeG l) (duesT (freeG l))).getD i (0, 0)).1 ≤ ((bndL partE l (duesT l)).getD i (0, 0)).1 ∧ ((bndL partE l (duesT l)).getD i (0, 0)).2 ≤ ((bndL partE (freeG l) (duesT (freeG l))).getD i (0, 0)).2 := by
  obtain ⟨hS, hp⟩ := asked_ok h
  obtain ⟨d, hd⟩ := dues_some hS
  have g1 := bnd_hull (l := freeG l) ⟨d, by rw [free_dues]; exact hd, free_can hS hd⟩ partE hi
  have g2 := bnd_hull hp partE hi
  rw [free_dues] at g1 ⊢
  obtain ⟨⟨a, ⟨da, hda, _, rfl⟩, ha⟩, _⟩ := g2.low
  obtain ⟨⟨b, ⟨db, hdb, _, rfl⟩, hb⟩, _⟩ := g2.high
  exact ⟨by rw [← ha]; exact g1.low.2 _ ⟨da, hda, free_can hS hda, rfl⟩, by rw [← hb]; exact g1.high.2 _ ⟨db, hdb, free_can hS hdb, rfl⟩⟩
end Go.Proofs.YtdjgikcnmokjkaaGreat

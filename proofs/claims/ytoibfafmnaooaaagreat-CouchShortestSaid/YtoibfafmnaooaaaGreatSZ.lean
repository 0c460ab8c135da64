/-
  The fewest turnings: the reference's are the program's (plain); contract of the reference's Fewest.
-/
import Derived.WalkKit
import Derived.WalkLawsBesides
import Derived.WalkSpells
import Derived.Outline
import Derived.Handy
import Derived.KernelRfl
import Derived.Lib.Hide
import Derived.Test.YtoibfafmnaooaaaGreatSE
import Derived.Test.YtoibfafmnaooaaaGreatME
namespace Go.Proofs.YtoibfafmnaooaaaGreat
open Go.RowKit Go.RG Go.SL Go.Shelf Cou
set_option maxHeartbeats 400000
set_option maxRecDepth 10000

/-- What the reference has found with the first k numbers. -/
def fewR (h : HeapD) (l : List (Int × List Int)) : Nat → Option (List Int)
  | 0 => none
  | k + 1 => if (((fewR h l k).isNone || shorter (bitsL k) ((fewR h l k).getD [])) && keepsR h (bitsL k) l == 1) = true then some (bitsL k) else fewR h l k

theorem fewR_inv (h : HeapD) (l : List (Int × List Int)) : ∀ k, (fewR h l k = none → ∀ j, j < k → keepsR h (bitsL j) l ≠ 1) ∧
    (∀ c, fewR h l k = some c → keepsR h c l = 1 ∧ (∃ j, j < k ∧ c = bitsL j) ∧ ∀ j, j < k → keepsR h (bitsL j) l = 1 → shorter (bitsL j) c = false) := by
  intro k
  induction k with
  | zero => exact ⟨fun _ j hj => by omega, fun c hc => by cases hc⟩
  | succ k ih =>
    obtain ⟨i1, i2⟩ := ih
    unfold fewR
    cases hf : fewR h l k with
    | none =>
      have i3 := i1 hf
      by_cases hk : keepsR h (bitsL k) l = 1
      · simp only [Option.isNone_none, Bool.true_or, Bool.true_and, hk, beq_self_eq_true, if_true]
        refine ⟨(fun e => by cases e), fun c hc => ?_⟩
        cases hc
        refine ⟨hk, ⟨k, by omega, rfl⟩, fun j hj hkj => ?_⟩
        by_cases e : j = k
        · subst e; exact shorter_irrefl _
        · exact absurd hkj (i3 j (by omega))
      · have hkb : (keepsR h (bitsL k) l == 1) = false := by rw [beq_eq_false_iff_ne]; exact hk
        simp only [hkb, Bool.and_false, Bool.false_eq_true, if_false]
        refine ⟨fun _ j hj => ?_, fun c hc => by cases hc⟩
        by_cases e : j = k
        · subst e; exact hk
        · exact i3 j (by omega)
    | some b =>
      obtain ⟨b1, ⟨j0, hj0, b2⟩, b3⟩ := i2 b hf
      by_cases hc : (((some b).isNone || shorter (bitsL k) ((some b).getD [])) && keepsR h (bitsL k) l == 1) = true
      · rw [if_pos hc]
        simp only [Option.isNone_some, Bool.false_or, Option.getD_some, Bool.and_eq_true, beq_iff_eq] at hc
        refine ⟨(fun e => by cases e), fun c hcc => ?_⟩
        cases hcc
        refine ⟨hc.2, ⟨k, by omega, rfl⟩, fun j hj hkj => ?_⟩
        by_cases e : j = k
        · subst e; exact shorter_irrefl _
        · cases hs : shorter (bitsL j) (bitsL k)
          · rfl
          · have := b3 j (by omega) hkj
            rw [shorter_trans hs hc.1] at this
            cases this
      · rw [if_neg hc]
        simp only [Option.isNone_some, Bool.false_or, Option.getD_some, Bool.and_eq_true, beq_iff_eq, not_and] at hc
        refine ⟨(fun e => by cases e), fun c hcc => ?_⟩
        cases hcc
        refine ⟨b1, ⟨j0, by omega, b2⟩, fun j hj hkj => ?_⟩
        by_cases e : j = k
        · subst e
          cases hs : shorter (bitsL j) b
          · rfl
          · exact absurd hkj (hc hs)
        · exact b3 j (by omega) hkj

theorem safe_keepsR {h : HeapD} (hS : Sound h) (l : List Int) : safeL h l = true ↔ keepsR h l (truthsR h) = 1 := by
  rw [keepsR_one]
  unfold safeL
  rw [List.all_eq_true]
  constructor
  · intro hh t ht
    have hm := (truthsR_mem hS t).1 ht
    rw [← kept_eq (truth_len hS hm) hS.last9]
    exact hh t hm
  · intro hh t hm
    rw [kept_eq (truth_len hS hm) hS.last9]
    exact hh t ((truthsR_mem hS t).2 hm)

/-- The fewest turnings: the reference's are the program's. -/
theorem few_eq {h : HeapD} (hS : Sound h) : fewR h (truthsR h) (2 ^ (h.last + 1).toNat) = fewS h := by
  obtain ⟨i1, i2⟩ := fewR_inv h (truthsR h) (2 ^ (h.last + 1).toNat)
  unfold fewS
  cases hf : fewR h (truthsR h) (2 ^ (h.last + 1).toNat) with
  | none =>
    have i3 := i1 hf
    cases hs : shortL (h.last + 1).toNat (safeL h) with
    | none => rfl
    | some c =>
      obtain ⟨c1, c2, _⟩ := shortL_some hs
      have := i3 (ofBits c) (ofBits_lt c2)
      rw [bits_ofBits c2] at this
      exact absurd ((safe_keepsR hS c).1 c1) this
  | some c =>
    obtain ⟨b1, ⟨j, hj, b2⟩, b3⟩ := i2 c hf
    symm
    refine shortL_is ((safe_keepsR hS c).2 b1) ?_ fun x hx hsx => ?_
    · rw [b2, bitsL_eq hj]; exact inc_bitsTo _ _
    · have := b3 (ofBits x) (ofBits_lt hx)
      rw [bits_ofBits hx] at this
      exact this ((safe_keepsR hS x).1 hsx)

theorem fewR_step {h : HeapD} {l : List (Int × List Int)} {k : Nat} {o : Option (List Int)} (ho : fewR h l k = o) (b : Bool) (hb : (keepsR h (bitsL k) l == 1) = b) :
    fewR h l (k + 1) = if ((o.isNone || shorter (bitsL k) (o.getD [])) && b) = true then some (bitsL k) else o := by
  rw [fewR, ho, hb]

/-- What the reference's Fewest returns. -/
def PFew (o : Option (List Int)) (w : World) (e : Ending) (w' : World) : Prop := ∃ v, e = .returned (.tuple #[v, .bool o.isSome]) ∧ IntsAt w' v (o.getD []) ∧ Below w.heap.size w w'

set_option maxHeartbeats 2000000 in
theorem refFewest_any (h : HeapD) (wv tv xv' ev : Value) (es : List TE) (w : World) (hw : PairsAt w wv h.wet) (ht : IntsAt w tv h.turns) (hx : TriplesAt w xv' h.readings)
    (hev : TEAt w ev es) (hes : ∀ e ∈ es, IntsAt w e.2.1 e.2.2) (hok : ∀ e ∈ es, HeatOk h (teP e) ∧ (h.last + 1).toNat ≤ e.2.2.length) (h0 : 0 ≤ h.last) (h9 : h.last ≤ 9) :
    Calls Tryz.prog 11 #[hv h wv tv xv', ev] w (PFew (fewR h (es.map teP) (2 ^ (h.last + 1).toNat)) w) := by
  obtain ⟨ow, cw, rfl⟩ := hw.open
  obtain ⟨ot, ct, rfl⟩ := ht.open
  obtain ⟨ox, cx, rfl⟩ := hx.open
  have HW := Lib.hid hw
  have HT := Lib.hid ht
  have HX := Lib.hid hx
  clear hw ht hx
  obtain ⟨oe, ce, rfl⟩ := TEAt.open hev
  obtain ⟨l, hl⟩ : ∃ l, es.map teP = l := ⟨_, rfl⟩
  obtain ⟨n, hn⟩ : ∃ n : Nat, h.last.toNat = n := ⟨_, rfl⟩
  have hn9 : n ≤ 9 := by omega
  obtain ⟨hp1, hp2⟩ := pow_bd hn9
  have HP : Hid ((h.last + 1).toNat = n + 1) := Lib.hid (by omega)
  have HBT := Lib.hid (fun (k : Nat) (hk : k < 2 ^ (n + 1)) (W : World) => Bits_any k (n + 1) W hk (by omega))
  obtain ⟨P, hP⟩ : ∃ P : Nat, 2 ^ (n + 1) = P := ⟨_, rfl⟩
  have hPI : (2 : Int) * 2 ^ n = P := by
    rw [← hP, Nat.pow_succ]
    have : ((2 ^ n : Nat) : Int) = 2 ^ n := by norm_cast
    rw [← this]
    omega
  have hP1 : P ≤ 1024 := by omega
  have HKP := Lib.hid (fun (k : Nat) (v : Value) (W : World) (hB : Below w.heap.size w W) (hv : IntsAt W v (bitsL k)) => refKeeps_any h (.slice ow h.wet.length cw) (.slice ot h.turns.length ct) (.slice ox h.readings.length cx) (.slice oe es.length ce) v es (bitsL k) W (HW.out.below hB (Nat.le_refl _)) (HT.out.below hB (Nat.le_refl _)) (HX.out.below hB (Nat.le_refl _)) (SlAt.below hev hB (Nat.le_refl _)) (fun e he => (hes e he).below hB (Nat.le_refl _)) hok h0 h9 hv)
  rw [hl] at HKP ⊢
  rw [HP.out]
  rw [hP] at HBT ⊢
  clear hev hes hok hl hP
  go_enter Tryz.func11, Tryz.ntmps11
  go_wp2_with fail
  refine gworld fun W1 hW1 => ?_
  have HB1 := Lib.hid (show Below w.heap.size w W1 from by rw [hW1]; exact (by repeat (first | exact Below.refl _ _ | assumption | refine bgo ?_ (by assumption) | refine bgoAlloc ?_ _ | refine bgoDrew ?_ | refine bgoSet ?_ (by simp; omega) _)))
  have HX1 := Lib.hid (show W1.heap[w.heap.size]? = some (.cells #[.int .i64 h.last, .int .i64 h.size, .int .i64 h.cool, .int .i64 h.die, .int .i64 h.burn, .int .i64 h.start.1, .int .i64 h.start.2, .slice ow h.wet.length cw, .slice ot h.turns.length ct, .slice ox h.readings.length cx] 28 (0, 0)) from by rw [hW1]; exact heap_new0 _ _)
  clear hW1
  go_loopw [6, 7, 8] (fun b f u wr => ∃ k : Nat, k ≤ P ∧ u = .int .i64 k ∧ f = .bool (fewR h l k).isSome ∧ IntsAt wr b ((fewR h l k).getD []) ∧ Below W1.heap.size W1 wr) (fun _ _ u _ => P - (intOf u).toNat)
  case atStart => exact ⟨0, Nat.zero_le _, rfl, rfl, ints_nil _, Below.refl _ _⟩
  case round =>
    obtain ⟨k, hk, rfl, rfl, hbst, hB⟩ := hrel
    obtain ⟨hc0, _, hs0⟩ := cells_of_block ((hB.block _ (cells_of_block HX1.out).2.2).trans HX1.out)
    obtain ⟨ob, cb, rfl⟩ := hbst.open
    have HB := Lib.hid hB
    have HBS := Lib.hid hbst
    clear hB hbst
    by_cases hlt : k < P
    case neg =>
      obtain rfl : k = P := by omega
      have hltI : ¬ (k : Int) < k := by omega
      obtain ⟨o, ho⟩ : ∃ o, fewR h l k = o := ⟨_, rfl⟩
      obtain ⟨f, hf⟩ : ∃ f, o.isSome = f := ⟨_, rfl⟩
      have HO := Lib.hid (And.intro ho hf)
      rw [ho] at HBS
      rw [ho, hf]
      clear ho hf
      go_wp2_with fail
      go_returns
      exact ⟨.slice ob (o.getD []).length cb, by rw [HO.out.1, HO.out.2]; simp, by rw [HO.out.1]; exact HBS.out, bgo HB1.out HB.out⟩
    have hltI : (k : Int) < P := by omega
    obtain ⟨o, ho⟩ : ∃ o, fewR h l k = o := ⟨_, rfl⟩
    obtain ⟨V, hV⟩ : ∃ V, keepsR h (bitsL k) l = V := ⟨_, rfl⟩
    obtain ⟨b, hb⟩ : ∃ b, ((V == 1) : Bool) = b := ⟨_, rfl⟩
    have HST := Lib.hid (fewR_step ho b (by rw [hV, hb]))
    have HVV := Lib.hid hV
    rw [ho] at HBS
    rw [ho]
    clear ho hV
    cases o with
    | none =>
      replace HST : Hid (fewR h l (k + 1) = if b = true then some (bitsL k) else none) := Lib.hid (by rw [HST.out]; simp)
      simp only [Option.isSome_none, Option.getD_none] at HBS ⊢
      go_wp2_with fail
      refine (HBT.out k hlt _).mono ?_
      rintro e W2 ⟨v, rfl, hv, hb2⟩
      obtain ⟨o2, c2, rfl⟩ := hv.open
      have HV2 := Lib.hid hv
      have HD2 := Lib.hid hb2
      have HBW := Lib.hid (bgo HB1.out (bgo HB.out hb2))
      obtain ⟨hc2, _, hs2⟩ := cells_of_block ((hb2.block _ hs0).trans ((HB.out.block _ (cells_of_block HX1.out).2.2).trans HX1.out))
      clear hv hb2 hc0
      go_wp2_with fail
      refine (HKP.out k _ _ HBW.out HV2.out).mono ?_
      rintro e W3 ⟨rfl, hb3⟩
      rw [HVV.out]
      have HD3 := Lib.hid hb3
      clear hb3 hc2
      cases b
      · go_wp2_with fail
        go_roundw
        case rel => exact ⟨k + 1, by omega, by go_num, by rw [HST.out]; rfl, by rw [HST.out]; exact ((HBS.out.below HD2.out (Nat.le_refl _)).below HD3.out (Nat.le_refl _)), bgo HB.out (bgo HD2.out HD3.out)⟩
        case measure => simp [intOf]; omega
      · go_wp2_with fail
        go_roundw
        case rel => exact ⟨k + 1, by omega, by go_num, by rw [HST.out]; rfl, by rw [HST.out]; exact HV2.out.below HD3.out (Nat.le_refl _), bgo HB.out (bgo HD2.out HD3.out)⟩
        case measure => simp [intOf]; omega
    | some best =>
      obtain ⟨sh, hsh⟩ : ∃ sh, shorter (bitsL k) best = sh := ⟨_, rfl⟩
      have HSH := Lib.hid hsh
      replace HST : Hid (fewR h l (k + 1) = if (sh && b) = true then some (bitsL k) else some best) := Lib.hid (by rw [HST.out, ← hsh]; simp)
      clear hsh
      simp only [Option.isSome_some, Option.getD_some] at HBS ⊢
      go_wp2_with fail
      refine (HBT.out k hlt _).mono ?_
      rintro e W2 ⟨v, rfl, hv, hb2⟩
      obtain ⟨o2, c2, rfl⟩ := hv.open
      have HV2 := Lib.hid hv
      have HD2 := Lib.hid hb2
      have HBW := Lib.hid (bgo HB1.out (bgo HB.out hb2))
      obtain ⟨hc2, _, hs2⟩ := cells_of_block ((hb2.block _ hs0).trans ((HB.out.block _ (cells_of_block HX1.out).2.2).trans HX1.out))
      clear hv hb2 hc0
      go_wp2_with fail
      refine (Shorter_any _ _ _ _ _ HV2.out (HBS.out.below HD2.out (Nat.le_refl _))).mono ?_
      rw [HSH.out]
      rintro e W3 ⟨rfl, hb3⟩
      have HD3 := Lib.hid hb3
      obtain ⟨hc3, _, hs3⟩ := cells_of_block ((hb3.block _ hs2).trans ((HD2.out.block _ hs0).trans ((HB.out.block _ (cells_of_block HX1.out).2.2).trans HX1.out)))
      clear hb3 hc2
      cases sh
      · go_wp2_with fail
        go_roundw
        case rel => exact ⟨k + 1, by omega, by go_num, by rw [HST.out]; rfl, by rw [HST.out]; exact ((HBS.out.below HD2.out (Nat.le_refl _)).below HD3.out (Nat.le_refl _)), bgo HB.out (bgo HD2.out HD3.out)⟩
        case measure => simp [intOf]; omega
      · go_wp2_with fail
        refine (HKP.out k _ _ (bgo HBW.out HD3.out) (HV2.out.below HD3.out (Nat.le_refl _))).mono ?_
        rintro e W4 ⟨rfl, hb4⟩
        rw [HVV.out]
        have HD4 := Lib.hid hb4
        clear hb4 hc3
        cases b
        · go_wp2_with fail
          go_roundw
          case rel => exact ⟨k + 1, by omega, by go_num, by rw [HST.out]; rfl, by rw [HST.out]; exact (((HBS.out.below HD2.out (Nat.le_refl _)).below HD3.out (Nat.le_refl _)).below HD4.out (Nat.le_refl _)), bgo HB.out (bgo HD2.out (bgo HD3.out HD4.out))⟩
          case measure => simp [intOf]; omega
        · go_wp2_with fail
          go_roundw
          case rel => exact ⟨k + 1, by omega, by go_num, by rw [HST.out]; rfl, by rw [HST.out]; exact (HV2.out.below HD3.out (Nat.le_refl _)).below HD4.out (Nat.le_refl _), bgo HB.out (bgo HD2.out (bgo HD3.out HD4.out))⟩
          case measure => simp [intOf]; omega

end Go.Proofs.YtoibfafmnaooaaaGreat

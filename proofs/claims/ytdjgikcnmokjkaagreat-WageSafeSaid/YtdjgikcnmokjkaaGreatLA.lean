/-
  The walk of WageSafe.
-/
import Derived.WalkKit
import Derived.WalkLawsBesides
import Derived.WalkSpells
import Derived.Outline
import Derived.Handy
import Derived.KernelRfl
import Derived.Lib.Hide
import Derived.Test.YtdjgikcnmokjkaaGreatZC
import Derived.Test.YtdjgikcnmokjkaaGreatUL
import Derived.Test.YtdjgikcnmokjkaaGreatVJ
namespace Go.Proofs.YtdjgikcnmokjkaaGreat
open Go.RowKit Go.RG Go.SL Go.Shelf Cou Go.TB
set_option maxHeartbeats 400000
set_option maxRecDepth 10000

/-- The lesser of two numbers. -/
theorem min_goS (ats : Array TypeId) (ty : TypeId) (a b : Int) : Builtin.min_ ats ty #[.int .i64 a, .int .i64 b] = pure (.int .i64 (min a b)) := by
  have h : Builtin.min_ ats ty #[.int .i64 a, .int .i64 b] = pure (.int .i64 (if b < a then b else a)) := rfl
  rw [h]
  have e : (if b < a then b else a) = min a b := by
    by_cases c : b < a
    · rw [if_pos c]; omega
    · rw [if_neg c]; omega
  rw [e]
attribute [local go_sem ↓] min_goS

theorem ready_facts {l : LedgerD} (h : readyL l = true) : faultW l = 0 ∧ SoundL l ∧ l.field.tallies.length ≤ 5 ∧ l.notes.length ≤ 5 ∧ (l.field.weeders + 1) ^ l.field.rows.toNat ≤ 130 ∧ l.rate * l.field.rows ≤ 42 := by
  unfold readyL at h
  rw [Bool.and_eq_true, decide_eq_true_eq] at h
  obtain ⟨h1, h2⟩ := h
  have hS := (faultW_sound h2).1
  have hF := soundF_of hS.field
  refine ⟨h2, hS, hF.tals, hS.many, ?_⟩
  unfold thinL at h1
  simp only [Bool.and_eq_true, Bool.or_eq_true, decide_eq_true_eq] at h1
  obtain ⟨_, _, h3 | h3 | h3⟩ := h1
  · exact absurd hS.field h3
  · have hr := hS.rate
    have : inB l.rate 1 50 = true := by unfold inB; simp; omega
    rw [this] at h3; cases h3
  · exact h3

set_option maxHeartbeats 8000000 in
theorem WageSafe_any (l : LedgerD) (tv nv : Value) (mu mo wh : Int) (w : World) (ht : TalliesAt w tv l.field.tallies) (hn : TriplesAt w nv l.notes) (h0 : 0 ≤ mu ∧ mu ≤ 65535) (h1 : 0 ≤ mo ∧ mo ≤ 255) (h2 : 0 ≤ wh ∧ wh ≤ 255) :
    Calls Tryz.prog 15 #[lv l tv nv, .int .u16 mu, .int .u8 mo, .int .u8 wh] w (PV (.bool true) w) := by
  have HA := Lib.hid (And.intro ht hn)
  have HR := Lib.hid (ready_any l tv nv (w.alloc (.cells (lcells l tv nv) 30)) (ht.alloc _) (hn.alloc _))
  clear ht hn
  obtain ⟨rd, hrd⟩ : ∃ rd, readyL l = rd := ⟨_, rfl⟩
  rw [hrd] at HR
  have HRD := Lib.hid hrd
  clear hrd
  go_enter Tryz.func15, Tryz.ntmps15
  go_wp2_with fail
  refine HR.out.mono ?_
  rintro e W1 ⟨rfl, hb⟩
  have hk0 := (hb.block w.heap.size (by simp)).trans (heap_new0 w (.cells (lcells l tv nv) 30))
  have HB1 := Lib.hid (And.intro (show Below w.heap.size w W1 from (by repeat (first | exact Below.refl _ _ | assumption | refine bgo ?_ (by assumption) | refine bgoAlloc ?_ _ | refine bgoDrew ?_ | refine bgoSet ?_ (by simp; omega) _))) hk0)
  obtain ⟨c0, f0, l0⟩ := cells_of_block hk0
  clear hb hk0
  cases rd
  · clear c0 f0 l0
    go_wp2_with fail
    refine (awake_any _).mono ?_
    rintro e W2 ⟨rfl, hb⟩
    have HB2 := Lib.hid (bgo HB1.out.1 hb)
    clear hb
    go_wp2_with fail
    go_returns
    exact ⟨by simp, HB2.out⟩
  obtain ⟨hz, hS, ht5, hn5, _, _⟩ := ready_facts HRD.out
  have hF := soundF_of hS.field
  have hw0 := hF.weed0
  have hw3 := hF.weed1
  obtain ⟨n, hn⟩ : ∃ n : Nat, l.field.weeders = n := ⟨l.field.weeders.toNat, by omega⟩
  have HNW := Lib.hid hn
  have hn3 : n ≤ 3 := by omega
  have hn1 : 1 ≤ n := by omega
  obtain ⟨m, hm⟩ : ∃ m, mu % 2001 = m := ⟨_, rfl⟩
  have hm0 : 0 ≤ m ∧ m ≤ 2000 := by omega
  have htm : mu.tmod 2001 = m := by rw [Int.tmod_eq_emod_of_nonneg h0.1]; exact hm
  obtain ⟨t, htt⟩ : ∃ t, mo % 9 = t := ⟨_, rfl⟩
  have ht0 : 0 ≤ t ∧ t ≤ 8 := by omega
  have hto : mo.tmod 9 = t := by rw [Int.tmod_eq_emod_of_nonneg h1.1]; exact htt
  obtain ⟨m2, hm2⟩ : ∃ m2, min 2000 (m + t) = m2 := ⟨_, rfl⟩
  have hm20 : m ≤ m2 ∧ m2 ≤ 2000 := by omega
  have hin1 : inB m 0 2000 = true := by unfold inB; simp; omega
  have hin2 : inB m2 0 2000 = true := by unfold inB; simp; omega
  have HLG := Lib.hid (fun (W : World) (hb : Below w.heap.size w W) => Ledger_any l tv nv W (HA.out.1.below hb (Nat.le_refl _)) (HA.out.2.below hb (Nat.le_refl _)) (by omega) (by omega))
  have HSF := Lib.hid (fun (of : Int) (hin : inB of 0 2000 = true) (W : World) (a b : Value) (h : TalliesAt W a l.field.tallies) (k : TriplesAt W b l.notes) => show Calls Tryz.prog 64 #[lv l a b, iv of] W (fun e w' => Below W.heap.size W w' ∧ ((askedErr l true ≠ 0 ∧ e = .returned (.tuple #[.slice none 0 0, iv (askedErr l true)])) ∨ (askedErr l true = 0 ∧ ∃ u, e = .returned (.tuple #[u, iv 0]) ∧ IntsAt w' u (safeV l of)))) from by
    have := Safe_any l a b of W h k (by omega)
    unfold SafePost at this
    rw [hin] at this
    exact this)
  have HSF1 := Lib.hid (HSF.out m hin1)
  have HSF2 := Lib.hid (HSF.out m2 hin2)
  have HM := Lib.hid (And.intro hm0 (And.intro hm20 hz))
  clear hF hw0 hw3 hn hm htt hin1 hin2 hS ht5 hn5 HSF hz
  go_wp2_with fail
  refine (HLG.out W1 HB1.out.1).mono ?_
  rintro e W2 ⟨a1, b1, rfl, ht1, hn1', hb⟩
  have hk0 := (hb.block _ l0).trans HB1.out.2
  have HB2 := Lib.hid (And.intro (bgo HB1.out.1 hb) hk0)
  have HL2 := Lib.hid (And.intro ht1 hn1')
  clear hb ht1 hn1' c0 f0
  obtain ⟨c0, f0, l0⟩ := cells_of_block hk0
  clear hk0
  go_wp2_with fail
  refine (HSF1.out W2 a1 b1 HL2.out.1 HL2.out.2).mono ?_
  obtain ⟨q, hq⟩ : ∃ q, askedErr l true = q := ⟨_, rfl⟩
  rw [hq] at HSF2 ⊢
  have HQ := Lib.hid hq
  clear hq
  rintro e W3 ⟨hb, ⟨hne, rfl⟩ | ⟨hq0, u1, rfl, hu1⟩⟩
  · have hq11 : q = 11 := by
      have := HQ.out
      unfold askedErr at this
      rw [HM.out.2.2] at this
      simp only [ne_eq, not_true_eq_false, if_false, Bool.true_eq_false] at this
      split at this <;> omega
    subst hq11
    have hk0 := (hb.block _ l0).trans HB2.out.2
    have HB3 := Lib.hid (And.intro (bgo HB2.out.1 hb) hk0)
    clear hb c0 f0
    obtain ⟨c0, f0, l0⟩ := cells_of_block hk0
    clear hk0
    go_wp2_with fail
    refine (HLG.out W3 HB3.out.1).mono ?_
    rintro e W4 ⟨a2, b2, rfl, ht2, hn2, hb⟩
    have HB4 := Lib.hid (bgo HB3.out.1 hb)
    have HL4 := Lib.hid (And.intro ht2 hn2)
    clear hb ht2 hn2 c0 f0
    go_wp2_with fail
    (try rw [hm2])
    refine (HSF2.out W4 a2 b2 HL4.out.1 HL4.out.2).mono ?_
    rintro e W5 ⟨hb, ⟨_, rfl⟩ | ⟨hq0, _⟩⟩
    · have HB5 := Lib.hid (bgo HB4.out hb)
      clear hb
      go_wp2_with fail
      refine (awake_any _).mono ?_
      rintro e W6 ⟨rfl, hb⟩
      have HB6 := Lib.hid (bgo HB5.out hb)
      clear hb
      go_wp2_with fail
      go_returns
      exact ⟨by simp, HB6.out⟩
    · cases hq0
  · subst hq0
    have hal := asked_ok HQ.out
    obtain ⟨hS, hpp⟩ := hal
    obtain ⟨hll, hlb⟩ := least_bd hS hpp
    have hwn : l.field.weeders.toNat = n := by have := HNW.out; omega
    rw [hwn] at hll
    have hp1 := safe_ok HQ.out hm0.1
    have HLS := Lib.hid (And.intro hll hlb)
    have HSK := Lib.hid (fun (k : Nat) (hk : k < n) => safe_more HQ.out hm0.1 (k := k) (by rw [hwn]; exact hk))
    have hpl : (safeV l m).length = n := by rw [safeV_eq, svL_len, hll]
    have hql : (safeV l m2).length = n := by rw [safeV_eq, svL_len, hll]
    have hpb := fun (k : Nat) (hk : k < n) => svL_at (ls := leastW l) (by omega) (fun x hx => (hlb x hx).1) hm0.1 (i := k) (by omega)
    have hqb := fun (k : Nat) (hk : k < n) => svL_at (ls := leastW l) (by omega) (fun x hx => (hlb x hx).1) (show 0 ≤ m2 by omega) (i := k) (by omega)
    have hlk := fun (k : Nat) (hk : k < n) => show 0 ≤ (leastW l).getD k 0 ∧ (leastW l).getD k 0 ≤ 350 from by
      rw [show (leastW l).getD k 0 = (leastW l)[k]'(by omega) from by simp [List.getD, show k < (leastW l).length by omega]]
      exact hlb _ (List.getElem_mem _)
    have hmore := fun (k : Nat) (hk : k < n) => svL_more (ls := leastW l) (by omega) (fun x hx => (hlb x hx).1) hm0.1 hm20.1 (i := k) (by omega)
    have hsum := (svL_sum (ls := leastW l) (by omega) hm0.1).1
    rw [← safeV_eq] at hsum
    simp only [← safeV_eq] at hpb hqb hmore
    obtain ⟨P, hP⟩ : ∃ P, safeV l m = P := ⟨_, rfl⟩
    obtain ⟨Q, hQ⟩ : ∃ Q, safeV l m2 = Q := ⟨_, rfl⟩
    rw [hP] at hu1 hp1 hpl hsum
    rw [hQ] at hql HSF2
    simp only [hP, hQ] at hpb hqb hmore HSK
    have HPQ := Lib.hid (And.intro hp1 (And.intro hpl (And.intro hql (And.intro (fun k hk => And.intro (hpb k hk) (And.intro (hqb k hk) (And.intro (hlk k hk) (hmore k hk)))) hsum))))
    obtain ⟨uo, uc, rfl⟩ := hu1.open
    have hu1' : SlAt 1 W3 (.slice uo n uc) n (intCells P) := by have := hu1; unfold IntsAt at this; rw [hpl] at this; exact this
    rw [hpl]
    have hk0 := (hb.block _ l0).trans HB2.out.2
    have HB3 := Lib.hid (And.intro (bgo HB2.out.1 hb) hk0)
    have HU1 := Lib.hid (show SlAt 1 W3 (.slice uo n uc) n (intCells P) from hu1')
    clear hb c0 f0 hu1 hu1' hpl hp1 hql hpb hqb hlk hmore hsum hll hlb hS hpp hP hQ hwn
    obtain ⟨c0, f0, l0⟩ := cells_of_block hk0
    clear hk0
    go_wp2_with fail
    refine (HLG.out W3 HB3.out.1).mono ?_
    rintro e W4 ⟨a2, b2, rfl, ht2, hn2, hb⟩
    have hk0 := (hb.block _ l0).trans HB3.out.2
    have HB4 := Lib.hid (And.intro (bgo HB3.out.1 hb) (And.intro hk0 hb))
    have HL4 := Lib.hid (And.intro ht2 hn2)
    clear hb ht2 hn2 c0 f0
    obtain ⟨c0, f0, l0⟩ := cells_of_block hk0
    clear hk0
    go_wp2_with fail
    (try rw [hm2])
    refine (HSF2.out W4 a2 b2 HL4.out.1 HL4.out.2).mono ?_
    rintro e W5 ⟨hb, ⟨hne, _⟩ | ⟨_, u2, rfl, hu2⟩⟩
    · exact absurd rfl hne
    obtain ⟨vo, vc, rfl⟩ := hu2.open
    rw [HPQ.out.2.2.1] at hu2 ⊢
    have hk0 := (hb.block _ l0).trans HB4.out.2.1
    have HB5 := Lib.hid (And.intro (bgo HB4.out.1 hb) (And.intro hk0 (And.intro (HU1.out.below (bgo HB4.out.2.2 hb) (Nat.le_refl _)) (show SlAt 1 W5 (.slice vo n vc) n (intCells Q) from by have := hu2; unfold IntsAt at this; rw [HPQ.out.2.2.1] at this; exact this))))
    clear hb hu2 c0 f0
    obtain ⟨c0, f0, l0⟩ := cells_of_block hk0
    clear hk0
    obtain ⟨K, hK, hKn⟩ : ∃ K : Nat, wh.tmod l.field.weeders = (K : Int) ∧ K < n := by
      have hn := HNW.out
      rw [hn, Int.tmod_eq_emod_of_nonneg h2.1]
      have g1 := Int.emod_nonneg wh (show (n : Int) ≠ 0 by omega)
      have g2 := Int.emod_lt_of_pos wh (show (0 : Int) < n by omega)
      exact ⟨(wh % (n : Int)).toNat, by omega, by omega⟩
    have hwz : (l.field.weeders == 0) = false := by rw [beq_eq_false_iff_ne]; have := HNW.out; omega
    have hwz' : ¬ l.field.weeders = 0 := by have := HNW.out; omega
    obtain ⟨S, hSS⟩ : ∃ S, sumI P = S := ⟨_, rfl⟩
    have HSUM := Lib.hid (fun (W : World) (h : SlAt 1 W (.slice uo n uc) n (intCells P)) => zSum_any P (.slice uo n uc) W (by unfold IntsAt; rw [HPQ.out.2.1]; exact h) (fun z hz => by
      obtain ⟨i, hi, hie⟩ := List.getElem_of_mem hz
      have := HPQ.out.2.2.2.1 i (by have := HPQ.out.2.1; omega)
      rw [show P.getD i 0 = z from by rw [← hie]; simp [List.getD, hi]] at this
      omega) (by have := HPQ.out.2.1; omega))
    rw [hSS] at HSUM
    have HSS := Lib.hid hSS
    have hSm : S ≤ m := by rw [← hSS]; exact HPQ.out.2.2.2.2
    clear hSS
    go_wp2_with fail
    refine (HSUM.out W5 HB5.out.2.2.1).mono ?_
    rintro e W6 ⟨rfl, hb⟩
    have hk0 := (hb.block _ l0).trans HB5.out.2.1
    have HB6 := Lib.hid (And.intro (bgo HB5.out.1 hb) (And.intro hk0 (And.intro (HB5.out.2.2.1.below hb (Nat.le_refl _)) (HB5.out.2.2.2.below hb (Nat.le_refl _)))))
    clear hb c0 f0
    obtain ⟨c0, f0, l0⟩ := cells_of_block hk0
    clear hk0
    have hwnb : ((n : Int) != l.field.weeders) = false := by rw [HNW.out]; simp
    have hnnb : ((n : Int) != (n : Int)) = false := by simp
    have hgt : ¬ S > m := by omega
    have hgtb : decide (S > m) = false := by simpa using hSm
    go_wp2_with fail
    refine (HLG.out W6 HB6.out.1).mono ?_
    rintro e W7 ⟨a3, b3, rfl, ht3, hn3', hb⟩
    have hk0 := (hb.block _ l0).trans HB6.out.2.1
    have HB7 := Lib.hid (And.intro (bgo HB6.out.1 hb) (And.intro hk0 (And.intro (HB6.out.2.2.1.below hb (Nat.le_refl _)) (HB6.out.2.2.2.below hb (Nat.le_refl _)))))
    have HL7 := Lib.hid (And.intro ht3 hn3')
    clear hb ht3 hn3' c0 f0
    obtain ⟨c0, f0, l0⟩ := cells_of_block hk0
    clear hk0
    have HLI := Lib.hid (fun (W : World) (h : SlAt 1 W (.slice uo n uc) n (intCells P)) => list_any P (.slice uo n uc) W (by unfold IntsAt; rw [HPQ.out.2.1]; exact h) (by have := HPQ.out.2.1; omega))
    go_wp2_with fail
    refine (HLI.out W7 HB7.out.2.2.1).mono ?_
    rintro e W8 ⟨u3, rfl, hu3, hb⟩
    obtain ⟨o3, q3, rfl⟩ := owns_slice hu3
    have hiv3 : IntsAt W8 (.slice o3 P.length q3) P := SlAt.of_owns hu3
    have hk0 := (hb.block _ l0).trans HB7.out.2.1
    have HB8 := Lib.hid (And.intro (bgo HB7.out.1 hb) (And.intro hk0 (And.intro (HB7.out.2.2.1.below hb (Nat.le_refl _)) (HB7.out.2.2.2.below hb (Nat.le_refl _)))))
    have HPS := Lib.hid (ProveSafe_any l a3 b3 (.slice o3 P.length q3) P W8 (HL7.out.1.below hb (Nat.le_refl _)) (HL7.out.2.below hb (Nat.le_refl _)) hiv3 (by have := HNW.out; omega))
    rw [HPQ.out.1] at HPS
    clear hb hu3 hiv3 c0 f0
    obtain ⟨c0, f0, l0⟩ := cells_of_block hk0
    clear hk0
    go_wp2_with fail
    refine HPS.out.mono ?_
    rintro e W9 ⟨rfl, hb⟩
    have hk0 := (hb.block _ l0).trans HB8.out.2.1
    have HB9 := Lib.hid (And.intro (bgo HB8.out.1 hb) (And.intro hk0 (And.intro (HB8.out.2.2.1.below hb (Nat.le_refl _)) (HB8.out.2.2.2.below hb (Nat.le_refl _)))))
    clear hb c0 f0 l0 hk0
    go_wp2_with fail
    clear hwz hwz' hwnb hnnb hgt hgtb
    go_loopw [16] (fun u wr => ∃ i : Nat, i ≤ n ∧ u = .int .i64 i ∧ Below W9.heap.size W9 wr) (fun u _ => n - (intOf u).toNat)
    case atStart => exact ⟨0, Nat.zero_le _, rfl, Below.refl _ _⟩
    case round =>
      obtain ⟨i, hi, rfl, hB⟩ := hrel
      have hp := HB9.out.2.2.1.below hB (Nat.le_refl _)
      have hq := HB9.out.2.2.2.below hB (Nat.le_refl _)
      have HX := Lib.hid (And.intro hB (And.intro hp hq))
      by_cases hlt : i < n
      · have hiP : i < P.length := by have := HPQ.out.2.1; omega
        have hiQ : i < Q.length := by have := HPQ.out.2.2.1; omega
        obtain ⟨g1, f1, e1, r1, d1⟩ := IntsAt.cell (show SlAt 1 wr (.slice uo P.length uc) P.length (intCells P) from by rw [HPQ.out.2.1]; exact hp) hiP
        obtain ⟨g2, f2, e2, r2, d2⟩ := IntsAt.cell (show SlAt 1 wr (.slice vo Q.length vc) Q.length (intCells Q) from by rw [HPQ.out.2.2.1]; exact hq) hiQ
        have hbd := HPQ.out.2.2.2.1 i hlt
        rw [show P.getD i 0 = P[i] from by simp [List.getD, hiP], show Q.getD i 0 = Q[i] from by simp [List.getD, hiQ]] at hbd
        generalize P[i] = x at *
        generalize Q[i] = y at *
        have hx0 : ¬ x < 0 := by omega
        have hx0b : decide (x < 0) = false := by simpa using hx0
        have hyx : ¬ y < x - 1 := by omega
        have hyxb : decide (y < x - 1) = false := by simpa using hyx
        have hxb : -1000 ≤ x ∧ x ≤ 1000 := by omega
        have hltI : (i : Int) < n := by omega
        cases e1
        cases e2
        clear hB hp hq hbd hiP hiQ
        go_wp2_with fail
        go_region
        all_goals go_wp2_with fail
        all_goals go_roundw
        case rel => exact ⟨i + 1, by omega, by go_num, bgoDrew HX.out.1⟩
        case measure => simp [intOf]; omega
      · have hin : i = n := by omega
        have hnl : ¬ (i : Int) < n := by omega
        have HB10 := Lib.hid (And.intro (bgo HB9.out.1 HX.out.1) (And.intro ((HX.out.1.block _ (Array.getElem?_eq_some_iff.1 HB9.out.2.1).1).trans HB9.out.2.1) HX.out.2.1))
        clear hB hp hq
        go_wp2_with fail
        clear hnl
        refine (HLI.out wr HB10.out.2.2).mono ?_
        rintro e W11 ⟨u4, rfl, hu4, hb⟩
        obtain ⟨o4, q4, rfl⟩ := owns_slice hu4
        have hkP : K < P.length := by have := HPQ.out.2.1; omega
        obtain ⟨p1, p2, p3, p4, p5⟩ : ∃ g : Nat, o4 = some ⟨g, 0, none⟩ ∧ wr.heap.size ≤ g ∧ g < W11.heap.size ∧ True := by
          obtain ⟨_, ⟨h5, h6⟩ | ⟨g, cap, cur, h5, h6, h7, _⟩⟩ := id hu4
          · omega
          · cases h5; exact ⟨g, rfl, h6, (Array.getElem?_eq_some_iff.1 h7).1, trivial⟩
        subst p2
        obtain ⟨s1, s2, s3, s4, s5⟩ := owns_setI (y := P.getD K 0 + 1) hu4 hkP
        have hk0 := (hb.block _ (Array.getElem?_eq_some_iff.1 HB10.out.2.1).1).trans HB10.out.2.1
        have hpk := HPQ.out.2.2.2.1 K hKn
        have hwl := (Array.getElem?_eq_some_iff.1 HB10.out.2.1).1
        have hpg : ¬ p1 = w.heap.size := by omega
        obtain ⟨x, hx⟩ : ∃ x, P.getD K 0 = x := ⟨_, rfl⟩
        rw [hx] at s1 s2 hpk
        have hxb : -1000 ≤ x ∧ x ≤ 1000 := by omega
        have hKI : (K : Int) < P.length := by omega
        have HB11 := Lib.hid (And.intro (bgo HB10.out.1 hb) (And.intro hk0 s1))
        have hsafe := HSK.out K hKn
        rw [HSS.out, hx] at hsafe
        have HSAFE := Lib.hid hsafe
        clear hb hu4 hk0 s1 hsafe hx hpk
        go_upto_region 19 with (fail)
        refine gworld fun W12 hW12 => ?_
        have hE12 : Ext [p1] W11 W12 := by rw [hW12]; exact ext_set W11 ⟨p1, K, none⟩ _
        have hbel : Below w.heap.size w W12 := by rw [hW12]; exact bgoSet HB11.out.1 (by simp; omega) _
        have hk12 := (hE12.block w.heap.size (Array.getElem?_eq_some_iff.1 HB11.out.2.1).1 (by simp; omega)).trans HB11.out.2.1
        have hown : W12.ownsRow wr.heap.size 3 1 (.slice (some ⟨p1, 0, none⟩) P.length q4) P.length (intCells (P.set K (x + 1))) := by rw [hW12]; exact HB11.out.2.2
        have HB12 := Lib.hid (And.intro hbel (And.intro hk12 hown))
        obtain ⟨c0, f0, l0⟩ := cells_of_block hk12
        clear hW12 hE12 hbel hk12 hown s2 s3
        by_cases hsm : S = m
        · have hsmb : (S == m) = true := by simpa using hsm
          clear c0 f0 l0
          go_wp2_with fail
          refine (awake_any _).mono ?_
          rintro e W13 ⟨rfl, hb⟩
          have HB13 := Lib.hid (bgo HB12.out.1 hb)
          clear hb
          go_wp2_with fail
          go_returns
          exact ⟨by simp, HB13.out⟩
        · have hsmb : (S == m) = false := by simpa using hsm
          have HNO := Lib.hid (HSAFE.out.resolve_left hsm)
          go_wp2_with fail
          refine (HLG.out W12 HB12.out.1).mono ?_
          rintro e W13 ⟨a4, b4, rfl, ht4, hn4, hb⟩
          have HB13 := Lib.hid (bgo HB12.out.1 hb)
          have hiv : IntsAt W13 (.slice (some ⟨p1, 0, none⟩) P.length q4) (P.set K (x + 1)) := by
            have := (SlAt.of_owns HB12.out.2.2).below hb (Nat.le_refl _)
            unfold IntsAt
            rw [List.length_set]
            exact this
          have HPS2 := Lib.hid (ProveSafe_any l a4 b4 (.slice (some ⟨p1, 0, none⟩) P.length q4) (P.set K (x + 1)) W13 ht4 hn4 hiv (by have := HNW.out; omega))
          rw [HNO.out] at HPS2
          clear hb ht4 hn4 hiv c0 f0
          go_wp2_with fail
          refine HPS2.out.mono ?_
          rintro e W14 ⟨rfl, hb⟩
          have HB14 := Lib.hid (bgo HB13.out hb)
          clear hb
          go_wp2_with fail
          refine (awake_any _).mono ?_
          rintro e W15 ⟨rfl, hb⟩
          have HB15 := Lib.hid (bgo HB14.out hb)
          clear hb
          go_wp2_with fail
          go_returns
          exact ⟨by simp, HB15.out⟩
end Go.Proofs.YtdjgikcnmokjkaaGreat

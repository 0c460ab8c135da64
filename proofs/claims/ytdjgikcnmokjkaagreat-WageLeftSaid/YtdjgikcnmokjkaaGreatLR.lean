/-
  The walk of WageLeft.
-/
import Derived.WalkKit
import Derived.WalkLawsBesides
import Derived.WalkSpells
import Derived.Outline
import Derived.Handy
import Derived.KernelRfl
import Derived.Lib.Hide
import Derived.BigRegion
import Derived.Deep.Cut
import Derived.Test.YtdjgikcnmokjkaaGreatZM
import Derived.Test.YtdjgikcnmokjkaaGreatZE
import Derived.Test.YtdjgikcnmokjkaaGreatVU
import Derived.Test.YtdjgikcnmokjkaaGreatKF
namespace Go.Proofs.YtdjgikcnmokjkaaGreat
open Go.RowKit Go.RG Go.SL Go.Shelf Cou Go.TB
set_option maxHeartbeats 400000
set_option maxRecDepth 10000

theorem and_natL (a b : Nat) (ha : a < 2 ^ 63) (hb : b < 2 ^ 63) : bits .and .i64 (a : Int) (b : Int) = ((a &&& b : Nat) : Int) := (bits_nat .i64 63 (by decide) wraps63 a b ha hb).1
theorem bits_incL (m n : Nat) (h : m < 2 ^ n) : Inc n 0 (bitsL m) := by
  rw [bitsL_eq h]
  exact inc_bitsTo _ _
/-- What the law needs of the smallest set. -/
theorem left_plain {l : LedgerD} (h : faultW l = 0) : Inc l.notes.length 0 (leaveW l) ∧ ofBits (leaveW l) < 2 ^ l.notes.length ∧
    (∀ M : Nat, (∀ i, M.testBit i = ((2 ^ l.notes.length - 1).testBit i && !(ofBits (leaveW l)).testBit i)) → askedErr (someG l M) true = 0) ∧
    ∀ m : Nat, m < 2 ^ l.notes.length → (possibleL l (bitsL m) = true → shorter (bitsL m) (leaveW l) = false) ∧
      ∀ M : Nat, (∀ i, M.testBit i = ((2 ^ l.notes.length - 1).testBit i && !m.testBit i)) → askedErr (someG l M) true = if possibleL l (bitsL m) = true then 0 else 11 := by
  obtain ⟨h1, h2, h3⟩ := leave_is (faultW_sound h).2
  refine ⟨h2, ofBits_lt h2, fun M hM => ?_, fun m hm => ⟨fun hp => h3 _ (bits_incL m _ hm) hp, fun M hM => ?_⟩⟩
  · rw [asked_some h (m := M) (out := leaveW l) fun i hi => ?_, if_pos h1]
    rw [hM, Nat.testBit_two_pow_sub_one, ← contains_bits (ofBits (leaveW l)) i, bits_ofBits h2]
    simp [hi]
  · refine asked_some h fun i hi => ?_
    rw [hM, Nat.testBit_two_pow_sub_one, contains_bits]
    simp [hi]

theorem tNotes9L : SliceT Tryz.prog 28 77 (xv (0, 0, 0)) 3 24 := ⟨Tryz.underlying28, by kernel_rfl, rfl, by omega⟩
/-- The notes of which the first ones are multiplied. -/
def scaTo (K : Int) (ns : List Rdg) (i : Nat) : List Rdg := (ns.take i).map (scaN K) ++ ns.drop i
theorem scaTo_zero (K : Int) (ns : List Rdg) : scaTo K ns 0 = ns := by simp [scaTo]
theorem scaTo_all (K : Int) (ns : List Rdg) : scaTo K ns ns.length = ns.map (scaN K) := by simp [scaTo]
theorem scaTo_len (K : Int) (ns : List Rdg) (i : Nat) : (scaTo K ns i).length = ns.length := by simp [scaTo]; omega
theorem scaTo_get (K : Int) {ns : List Rdg} {i : Nat} (hi : i < ns.length) : (scaTo K ns i)[i]? = some ns[i] := by
  unfold scaTo
  rw [List.getElem?_append_right (by simp; omega)]
  simp [Nat.min_eq_left (Nat.le_of_lt hi), hi]
theorem scaTo_succ (K : Int) {ns : List Rdg} {i : Nat} (hi : i < ns.length) : (scaTo K ns i).set i (scaN K ns[i]) = scaTo K ns (i + 1) := by
  unfold scaTo
  refine List.ext_getElem (by simp; omega) fun j h1 h2 => ?_
  rw [List.getElem_set]
  by_cases hij : i = j
  · subst hij
    rw [if_pos rfl, List.getElem_append_left (by simp; omega)]
    simp
  · rw [if_neg hij]
    by_cases hlt : j < i
    · rw [List.getElem_append_left (by simp; omega), List.getElem_append_left (by simp; omega)]
      simp
    · rw [List.getElem_append_right (by simp; omega), List.getElem_append_right (by simp; omega)]
      simp only [List.length_map, List.length_take, List.getElem_drop]
      congr 1
      omega
theorem triple_setL : ∀ (l : List Rdg) (J : Nat) (y0 y1 y2 a b : Int), l[J]? = some (y0, y1, y2) → ((tripleCells l).set (J * 3 + 1) (iv a)).set (J * 3 + 1 + 1) (iv b) = tripleCells (l.set J (y0, a, b)) := by
  have e : ∀ (x : Rdg) (l : List Rdg), tripleCells (x :: l) = iv x.1 :: iv x.2.1 :: iv x.2.2 :: tripleCells l := fun x l => by simp [tripleCells]
  intro l
  induction l with
  | nil => intro J y0 y1 y2 a b h; simp at h
  | cons x l ih =>
    intro J y0 y1 y2 a b h
    cases J with
    | zero =>
      have hx : x = (y0, y1, y2) := by simpa using h
      subst hx
      rw [e, List.set_cons_zero, e]
      rfl
    | succ J =>
      have h' : l[J]? = some (y0, y1, y2) := by simpa using h
      rw [show (x :: l).set (J + 1) (y0, a, b) = x :: l.set J (y0, a, b) from rfl, e, e, ← ih J y0 y1 y2 a b h', show (J + 1) * 3 + 1 = (J * 3 + 1) + 1 + 1 + 1 from by omega]
      simp only [List.set_cons_succ]

set_option maxHeartbeats 16000000 in
theorem WageLeft_any (l : LedgerD) (tv nv : Value) (tr : Nat) (bn : Int) (w : World) (ht : TalliesAt w tv l.field.tallies) (hn : TriplesAt w nv l.notes) (htr : (tr : Int) ≤ 255) (hbn : 0 ≤ bn ∧ bn ≤ 255) :
    Calls Tryz.prog 13 #[lv l tv nv, .int .u8 tr, .int .u8 bn] w (PV (.bool true) w) := by
  have HTV := Lib.hid ht.open
  have HA := Lib.hid (And.intro ht hn)
  have HR := Lib.hid (ready_any l tv nv (w.alloc (.cells (lcells l tv nv) 30)) (ht.alloc _) (hn.alloc _))
  obtain ⟨on, cn, rfl⟩ := hn.open
  clear ht hn
  obtain ⟨rd, hrd⟩ : ∃ rd, readyL l = rd := ⟨_, rfl⟩
  rw [hrd] at HR
  have HRD := Lib.hid hrd
  clear hrd
  go_enter Tryz.func13, Tryz.ntmps13
  go_wp2_with fail
  refine HR.out.mono ?_
  rintro e W1 ⟨rfl, hb⟩
  have hk0 := (hb.block w.heap.size (by simp)).trans (heap_new0 w (.cells (lcells l tv (.slice on l.notes.length cn)) 30))
  have HB1 := Lib.hid (And.intro (show Below w.heap.size w W1 from (by repeat (first | exact Below.refl _ _ | assumption | refine bgo ?_ (by assumption) | refine bgoAlloc ?_ _ | refine bgoDrew ?_ | refine bgoSet ?_ (by simp; omega) _))) hk0)
  obtain ⟨c0, f0, l0⟩ := cells_of_block hk0
  clear hb hk0
  cases rd
  · clear c0 f0 l0
    go_wp2_with fail
    refine (awake_any _).mono ?_
    rintro e W2 ⟨rfl, hb⟩
    have HB2 := Lib.hid (bgo HB1.out.1 hb)
    clear hb
    go_wp2_with fail
    go_returns
    exact ⟨by simp, HB2.out⟩
  obtain ⟨hz, hS, ht5, hn5, _, _⟩ := readyL_facts HRD.out
  have hw0 := (soundF_of hS.field).weed0
  have hw3 := (soundF_of hS.field).weed1
  have HM := Lib.hid (And.intro hz (And.intro hS (And.intro ht5 (And.intro hn5 (And.intro hw0 hw3)))))
  clear hz hS ht5 hw0 hw3
  have HK1 := Lib.hid (Keeps.one HB1.out.1 HB1.out.2)
  obtain ⟨ot, ct, htv⟩ := HTV.out
  subst htv
  obtain ⟨r, hr⟩ : ∃ r, bn % 3 = r := ⟨_, rfl⟩
  have hr2 : 0 ≤ r ∧ r ≤ 2 := by omega
  have hrt : bn.tmod 3 = r := by rw [Int.tmod_eq_emod_of_nonneg hbn.1]; exact hr
  have HRT := Lib.hid hrt
  obtain ⟨p1, p2, p3, p4⟩ := left_plain HM.out.1
  have hFl : 2 ^ l.notes.length ≤ 2 ^ 5 := Nat.pow_le_pow_right (by omega) (by omega)
  have hF1 := Nat.one_le_two_pow (n := l.notes.length)
  have HFUL := Lib.hid (fun (W : World) (h : TriplesAt W (.slice on l.notes.length cn) l.notes) => zFull_any l (.slice ot l.field.tallies.length ct) (.slice on l.notes.length cn) W h (by omega))
  rw [pow_castM] at HFUL
  obtain ⟨L, hL⟩ : ∃ L, leaveW l = L := ⟨_, rfl⟩
  rw [hL] at p1 p2 p3 p4
  have HLV := Lib.hid hL
  have hL5 : L.length ≤ 5 := by have := p1.len; omega
  obtain ⟨FU, hFU⟩ : ∃ F, 2 ^ l.notes.length - 1 = F := ⟨_, rfl⟩
  rw [hFU] at p3 p4 HFUL
  have hFU5 : FU ≤ 31 := by omega
  obtain ⟨ob, hob⟩ : ∃ ob, ofBits L = ob := ⟨_, rfl⟩
  rw [hob] at p2 p3
  have hand := and_natL tr FU (by omega) (by omega)
  have hml : tr &&& FU ≤ FU := Nat.and_le_right
  obtain ⟨m, hm⟩ : ∃ m, tr &&& FU = m := ⟨_, rfl⟩
  rw [hm] at hand hml
  obtain ⟨M1, han1, hM1, hb1⟩ := andNot_nat FU ob (by omega)
  obtain ⟨M2, han2, hM2, hb2⟩ := andNot_nat FU m (by omega)
  have hq1 := p3 M1 hb1
  obtain ⟨hsh, hq2⟩ := p4 m (by omega)
  have hq2 := hq2 M2 hb2
  obtain ⟨pb, hpb⟩ : ∃ pb, possibleL l (bitsL m) = pb := ⟨_, rfl⟩
  rw [hpb] at hq2 hsh
  have HAN := Lib.hid (And.intro hand (And.intro han1 han2))
  have HSH := Lib.hid hsh
  have hm31 : m < 2 ^ 7 := by omega
  have HBT := Lib.hid (fun (W : World) => rBits_any m 7 W hm31 (by omega))
  have HSM1 := Lib.hid (fun (W : World) (h1 : TalliesAt W (.slice ot l.field.tallies.length ct) l.field.tallies) (h2 : TriplesAt W (.slice on l.notes.length cn) l.notes) => show Calls Tryz.prog 44 #[lv l (.slice ot l.field.tallies.length ct) (.slice on l.notes.length cn), iv M1] W (fun e w' => ∃ c, e = .returned (lv (someG l M1) (.slice ot l.field.tallies.length ct) c) ∧ TriplesAt w' c (someG l M1).notes ∧ Below W.heap.size W w') from lawSome_any l (.slice ot l.field.tallies.length ct) (.slice on l.notes.length cn) M1 W h1 h2 (by omega) (by omega))
  have HSM2 := Lib.hid (fun (W : World) (h1 : TalliesAt W (.slice ot l.field.tallies.length ct) l.field.tallies) (h2 : TriplesAt W (.slice on l.notes.length cn) l.notes) => show Calls Tryz.prog 44 #[lv l (.slice ot l.field.tallies.length ct) (.slice on l.notes.length cn), iv M2] W (fun e w' => ∃ c, e = .returned (lv (someG l M2) (.slice ot l.field.tallies.length ct) c) ∧ TriplesAt w' c (someG l M2).notes ∧ Below W.heap.size W w') from lawSome_any l (.slice ot l.field.tallies.length ct) (.slice on l.notes.length cn) M2 W h1 h2 (by omega) (by omega))
  have h5t := HM.out.2.2.1
  have HLD1 := Lib.hid (fun (W : World) (c : Value) (h1 : TalliesAt W (.slice ot l.field.tallies.length ct) l.field.tallies) (h2 : TriplesAt W c (someG l M1).notes) => Ledger_any (someG l M1) (.slice ot l.field.tallies.length ct) c W h1 h2 (by show l.field.tallies.length ≤ 1000; omega) (by have := someTo_len M1 l.notes.length l.notes; show (someTo M1 l.notes l.notes.length).length ≤ 1000; omega))
  have HLD2 := Lib.hid (fun (W : World) (c : Value) (h1 : TalliesAt W (.slice ot l.field.tallies.length ct) l.field.tallies) (h2 : TriplesAt W c (someG l M2).notes) => Ledger_any (someG l M2) (.slice ot l.field.tallies.length ct) c W h1 h2 (by show l.field.tallies.length ≤ 1000; omega) (by have := someTo_len M2 l.notes.length l.notes; show (someTo M2 l.notes l.notes.length).length ≤ 1000; omega))
  have HPD1 := Lib.hid (fun (W : World) (a b : Value) (h1 : TalliesAt W a (someG l M1).field.tallies) (h2 : TriplesAt W b (someG l M1).notes) => show Calls Tryz.prog 41 #[lv (someG l M1) a b] W (fun e w' => ∃ o n c, e = .returned (.tuple #[.slice o n c, iv 0]) ∧ Below W.heap.size W w') from by
    refine (Paid_any (someG l M1) a b W h1 h2).mono ?_
    intro e w' hpp
    obtain ⟨o, n, c, rfl, _, _, hb⟩ := hpp.uni
    rw [hq1]
    exact ⟨o, n, c, rfl, hb⟩)
  have HPD2 := Lib.hid (fun (W : World) (a b : Value) (h1 : TalliesAt W a (someG l M2).field.tallies) (h2 : TriplesAt W b (someG l M2).notes) => show Calls Tryz.prog 41 #[lv (someG l M2) a b] W (fun e w' => ∃ o n c, e = .returned (.tuple #[.slice o n c, iv (if pb = true then 0 else 11)]) ∧ Below W.heap.size W w') from by
    refine (Paid_any (someG l M2) a b W h1 h2).mono ?_
    intro e w' hpp
    obtain ⟨o, n, c, rfl, _, _, hb⟩ := hpp.uni
    rw [hq2]
    exact ⟨o, n, c, rfl, hb⟩)
  generalize someG l M1 = G1 at *
  generalize someG l M2 = G2 at *
  have HOB := Lib.hid hob
  have HP1 := Lib.hid p1
  have hob31 : ob ≤ 31 := by omega
  clear hr hrt hFl hF1 p1 p2 p3 p4 hL hFU hob hand hml hm han1 han2 hb1 hb2 hq1 hq2 hsh hpb h5t
  go_wp2_with fail
  refine (Ledger_any (l) (.slice ot l.field.tallies.length ct) (.slice on l.notes.length cn) W1 (HA.out.1.below HK1.out.below (Nat.le_refl _)) (HA.out.2.below HK1.out.below (Nat.le_refl _)) (by have := HM.out.2.2.1; omega) (by have := HM.out.2.2.2.1; omega)).mono ?_
  rintro e W2 ⟨a2, b2, rfl, ht2, hn2, hb⟩
  have HL2 := Lib.hid (And.intro ht2 hn2)
  clear ht2 hn2
  have HK2 := Lib.hid (HK1.out.next hb)
  clear hb
  (try clear c0 f0)
  obtain ⟨c0, f0, l0⟩ := cells_of_block HK2.out.blk
  go_wp2_with fail
  refine (Leave_any (l) a2 b2 W2 HL2.out.1 HL2.out.2).mono ?_
  rintro e W3 ⟨hb, ⟨hne, _⟩ | ⟨_, u3, rfl, hu3⟩⟩
  · exact absurd (HM.out.1) hne
  rw [HLV.out] at hu3
  obtain ⟨uo3, uc3, rfl⟩ := hu3.open
  have HU3 := Lib.hid hu3
  clear hu3
  have HK3 := Lib.hid (HK2.out.next hb)
  clear hb
  (try clear c0 f0)
  obtain ⟨c0, f0, l0⟩ := cells_of_block HK3.out.blk
  have HK3 := Lib.hid (HK3.out.add (show IntsAt W3 (.slice uo3 (L).length uc3) (L) from HU3.out) (last_at HU3.out))
  go_wp2_with fail
  clear c0 f0
  go_loopw [9, 10] (fun v9 u wr => ∃ k : Nat, k ≤ L.length ∧ u = .int .i64 k ∧ v9 = .int .i64 ((ofBits (L.take k) : Nat) : Int) ∧ Below W3.heap.size W3 wr) (fun _ u _ => L.length - (intOf u).toNat)
  case atStart => exact ⟨0, Nat.zero_le _, rfl, rfl, Below.refl _ _⟩
  case round =>
    obtain ⟨k, hk, rfl, rfl, hb⟩ := hrel
    generalize wr = W4 at *
    have HB4 := Lib.hid hb
    have HK4 := Lib.hid (HK3.out.next hb)
    clear hb
    (try clear c0 f0)
    obtain ⟨c0, f0, l0⟩ := cells_of_block HK4.out.blk
    by_cases hlt : k < L.length
    · obtain ⟨g, off, hgv, hg, d1⟩ := IntsAt.cell HK4.out.is.1 hlt
      obtain ⟨n, hn, hn5'⟩ := inc_at HP1.out hlt
      have hob := ofBits_lt (inc_take HP1.out k)
      have hpo : 2 ^ l.notes.length ≤ 2 ^ 5 := Nat.pow_le_pow_right (by omega) hn5
      have hta := ofBits_take hlt hn
      have hb128 : ofBits (L.take k) ≤ 127 := by omega
      generalize hbk : ofBits (L.take k) = b at *
      have hltI : (k : Int) < L.length := by omega
      obtain ⟨hp1, hp2⟩ := pow_bd (show n ≤ 6 by omega)
      have hp2N : 2 ^ n ≤ 2 ^ 6 := Nat.pow_le_pow_right (by omega) (by omega)
      have hor : bits .or .i64 (b : Int) (2 ^ n) = ((b ||| 2 ^ n : Nat) : Int) := by
        have := or_nat b (2 ^ n) (by omega) (by omega)
        simpa using this
      have hn7 : (n : Int) ≤ 6 := by omega
      have HTA := Lib.hid (And.intro hta hbk)
      have hb127I : (b : Int) ≤ 127 := by omega
      have HC := Lib.hid (fun W => rIn_any (n : Int) 0 ((l.notes.length : Int) - 1) W)
      rw [show inB (n : Int) 0 ((l.notes.length : Int) - 1) = true from by simp [inB]; omega] at HC
      cases hgv
      clear hob hpo hta hbk hp2N
      cases k with
      | zero =>
        rw [hn] at d1
        simp only [Nat.add_zero] at d1
        have HN := Lib.hid hn
        clear hn
        go_upto_region 10 with (fail)
        refine wp_region_rg 25 [] none [(8, Spec.val (.bool true))] (by as_aux_lemma => kernel_rfl) (by as_aux_lemma => kernel_rfl) ?_
        simp only [List.take_succ_cons, List.take_zero, List.drop_succ_cons, List.drop_zero]
        repeat (first | (refine tree_det (by rfl) _ (by rfl) (fun W hW => by go_simp; (try simp (disch := omega) only [IntWalk.i64_in]); try rfl) ?_; simp only [Act.put, List.setIfInBounds_toArray, List.set_cons_succ, List.set_cons_zero]) | (refine tree_skip (by rfl) (by rfl) ?_; simp only [Act.put, List.setIfInBounds_toArray, List.set_cons_succ, List.set_cons_zero]))
        refine tree_val _ (by rfl) (by rfl) 25 _ (fun W hW => by go_simp; try rfl) (fun W hE hF => by exact HC.out W) ?_
        simp only [Act.put, List.setIfInBounds_toArray, List.set_cons_succ, List.set_cons_zero]
        repeat (first | (refine tree_det (by rfl) _ (by rfl) (fun W hW => by go_simp; (try simp (disch := omega) only [IntWalk.i64_in]); try rfl) ?_; simp only [Act.put, List.setIfInBounds_toArray, List.set_cons_succ, List.set_cons_zero]) | (refine tree_skip (by rfl) (by rfl) ?_; simp only [Act.put, List.setIfInBounds_toArray, List.set_cons_succ, List.set_cons_zero]))
        intro W hE hF
        obtain ⟨hc, hf⟩ := bcell hE.below
        have hzE := hE.size
        (try simp only [World.size_alloc] at hzE)
        have HE := Lib.hid hE
        clear hE hF
        go_wp2_with fail
        go_roundw
        case rel => exact ⟨1, by omega, by go_num, by rw [HTA.out.1], bgo HB4.out HE.out.below⟩
        case measure => simp [intOf]; omega
      | succ m' =>
        have hm' : m' < L.length := by omega
        obtain ⟨bb', off', he, _, d2⟩ := IntsAt.cell HK4.out.is.1 hm'
        cases he
        have hst := inc_step HP1.out hlt
        rw [hn] at hst d1
        generalize L[m'] = y at *
        have hd3 : decide ((n : Int) ≤ y) = false := by simp; omega
        clear hst
        have HN := Lib.hid hn
        have hmI : (m' : Int) < L.length := by omega
        have hsub : ((m' + 1 : Nat) : Int) - 1 = (m' : Int) := by omega
        clear hn
        go_upto_region 10 with (fail)
        refine wp_region_rg 25 [] none [(8, Spec.val (.bool true))] (by as_aux_lemma => kernel_rfl) (by as_aux_lemma => kernel_rfl) ?_
        simp only [List.take_succ_cons, List.take_zero, List.drop_succ_cons, List.drop_zero]
        repeat (first | (refine tree_det (by rfl) _ (by rfl) (fun W hW => by go_simp; (try simp (disch := omega) only [IntWalk.i64_in]); try rfl) ?_; simp only [Act.put, List.setIfInBounds_toArray, List.set_cons_succ, List.set_cons_zero]) | (refine tree_skip (by rfl) (by rfl) ?_; simp only [Act.put, List.setIfInBounds_toArray, List.set_cons_succ, List.set_cons_zero]))
        refine tree_val _ (by rfl) (by rfl) 25 _ (fun W hW => by go_simp; try rfl) (fun W hE hF => by exact HC.out W) ?_
        simp only [Act.put, List.setIfInBounds_toArray, List.set_cons_succ, List.set_cons_zero]
        repeat (first | (refine tree_det (by rfl) _ (by rfl) (fun W hW => by go_simp; (try simp (disch := omega) only [IntWalk.i64_in]); try rfl) ?_; simp only [Act.put, List.setIfInBounds_toArray, List.set_cons_succ, List.set_cons_zero]) | (refine tree_skip (by rfl) (by rfl) ?_; simp only [Act.put, List.setIfInBounds_toArray, List.set_cons_succ, List.set_cons_zero]))
        intro W hE hF
        obtain ⟨hc, hf⟩ := bcell hE.below
        have hzE := hE.size
        (try simp only [World.size_alloc] at hzE)
        have HE := Lib.hid hE
        clear hE hF
        go_wp2_with fail
        go_roundw
        case rel => exact ⟨m' + 2, by omega, by go_num, by rw [HTA.out.1], bgo HB4.out HE.out.below⟩
        case measure => simp [intOf]; omega
    · have hkl : k = L.length := by omega
      have hnl : ¬ (k : Int) < L.length := by omega
      have hall : ofBits (L.take k) = ob := by rw [hkl, List.take_length]; exact HOB.out
      rw [hall]
      clear hall hkl
      obtain ⟨hand, han1, han2⟩ := HAN.out
      go_wp2_with fail
      refine (HFUL.out W4 (HA.out.2.below HK4.out.below (Nat.le_refl _))).mono ?_
      rintro e W5 ⟨rfl, hb⟩
      have HK5 := Lib.hid (HK4.out.next hb)
      clear hb
      (try clear c0 f0)
      obtain ⟨c0, f0, l0⟩ := cells_of_block HK5.out.blk
      go_wp2_with fail
      refine wp_region_rg 13 [] none [(2, Spec.val (iv FU)), (5, ⟨fun _ v => ∃ c, v = lv G1 (.slice ot l.field.tallies.length ct) c, fun _ v Wx => ∃ c, v = lv G1 (.slice ot l.field.tallies.length ct) c ∧ TriplesAt Wx c (G1).notes⟩), (6, ⟨fun _ v => ∃ a b, v = lv G1 a b, fun _ v Wx => ∃ a b, v = lv G1 a b ∧ TalliesAt Wx a (G1).field.tallies ∧ TriplesAt Wx b (G1).notes⟩), (7, ⟨fun _ v => ∃ o n c, v = .tuple #[.slice o n c, iv (0)], fun _ _ _ => True⟩)] (by as_aux_lemma => kernel_rfl) (by as_aux_lemma => kernel_rfl) ?_
      simp only [List.take_succ_cons, List.take_zero, List.drop_succ_cons, List.drop_zero]
      repeat (first | (refine tree_det (by rfl) _ (by rfl) (fun W hW => by go_simp; (try simp (disch := omega) only [IntWalk.i64_in]); try rfl) ?_; simp only [Act.put, List.setIfInBounds_toArray, List.set_cons_succ, List.set_cons_zero]) | (refine tree_skip (by rfl) (by rfl) ?_; simp only [Act.put, List.setIfInBounds_toArray, List.set_cons_succ, List.set_cons_zero]))
      refine tree_val _ (by rfl) (by rfl) 63 _ (fun W hW => by go_simp; try rfl) (fun W hE hF => by exact HFUL.out W (HA.out.2.below (bgo HK5.out.below (Ext.below (show Ext [] W5 W from hE))) (Nat.le_refl _))) ?_
      simp only [Act.put, List.setIfInBounds_toArray, List.set_cons_succ, List.set_cons_zero]
      repeat (first | (refine tree_det (by rfl) _ (by rfl) (fun W hW => by go_simp; (try simp (disch := omega) only [IntWalk.i64_in]); try rfl) ?_; simp only [Act.put, List.setIfInBounds_toArray, List.set_cons_succ, List.set_cons_zero]) | (refine tree_skip (by rfl) (by rfl) ?_; simp only [Act.put, List.setIfInBounds_toArray, List.set_cons_succ, List.set_cons_zero]))
      refine tree_some _ (by rfl) (by rfl) (by exact ⟨lv G1 (.slice ot l.field.tallies.length ct) (.slice none 0 0), _, rfl⟩) (fun Wx hE hF => ?_) (fun v Wx Wy ho hE => ?_) (fun v hv => ?_)
      · have hE' : Ext [] W5 Wx := hE
        refine does_enter 44 #[lv l (.slice ot l.field.tallies.length ct) (.slice on l.notes.length cn), iv M1] (by go_simp; try rfl) ?_
        refine (HSM1.out Wx (HA.out.1.below (bgo HK5.out.below hE'.below) (Nat.le_refl _)) (HA.out.2.below (bgo HK5.out.below hE'.below) (Nat.le_refl _))).mono ?_
        rintro e W' ⟨c0', rfl, hc0, hb⟩
        exact ⟨_, rfl, ⟨_, rfl⟩, ⟨_, rfl, hc0⟩, Ext.of_below hb⟩
      · obtain ⟨c0', rfl, g1⟩ := ho
        exact ⟨_, rfl, g1.below (Ext.below (show Ext [] Wx Wy from hE)) (Nat.le_refl _)⟩
      obtain ⟨c5, rfl⟩ := hv
      simp only [Act.put, List.setIfInBounds_toArray, List.set_cons_succ, List.set_cons_zero]
      repeat (first | (refine tree_det (by rfl) _ (by rfl) (fun W hW => by go_simp; (try simp (disch := omega) only [IntWalk.i64_in]); try rfl) ?_; simp only [Act.put, List.setIfInBounds_toArray, List.set_cons_succ, List.set_cons_zero]) | (refine tree_skip (by rfl) (by rfl) ?_; simp only [Act.put, List.setIfInBounds_toArray, List.set_cons_succ, List.set_cons_zero]))
      refine tree_some _ (by rfl) (by rfl) (by exact ⟨lv G1 (.slice none 0 0) (.slice none 0 0), _, _, rfl⟩) (fun Wx hE hF => ?_) (fun v Wx Wy ho hE => ?_) (fun v hv => ?_)
      · have hE' : Ext [] W5 Wx := hE
        obtain ⟨c5', he, g1⟩ := hF _ (List.Mem.head _) (by kernel_rfl)
        cases he
        refine does_enter 22 #[lv G1 (.slice ot l.field.tallies.length ct) c5] (by go_simp; try rfl) ?_
        refine (HLD1.out Wx c5 (HA.out.1.below (bgo HK5.out.below hE'.below) (Nat.le_refl _)) g1).mono ?_
        rintro e W' ⟨a0, b0, rfl, ht0, hn0, hb⟩
        exact ⟨_, rfl, ⟨_, _, rfl⟩, ⟨_, _, rfl, ht0, hn0⟩, Ext.of_below hb⟩
      · obtain ⟨a0, b0, rfl, g1, g2⟩ := ho
        have hb := Ext.below (show Ext [] Wx Wy from hE)
        exact ⟨_, _, rfl, g1.below hb (Nat.le_refl _), g2.below hb (Nat.le_refl _)⟩
      obtain ⟨a6, b6, rfl⟩ := hv
      simp only [Act.put, List.setIfInBounds_toArray, List.set_cons_succ, List.set_cons_zero]
      repeat (first | (refine tree_det (by rfl) _ (by rfl) (fun W hW => by go_simp; (try simp (disch := omega) only [IntWalk.i64_in]); try rfl) ?_; simp only [Act.put, List.setIfInBounds_toArray, List.set_cons_succ, List.set_cons_zero]) | (refine tree_skip (by rfl) (by rfl) ?_; simp only [Act.put, List.setIfInBounds_toArray, List.set_cons_succ, List.set_cons_zero]))
      refine tree_some _ (by rfl) (by rfl) (by exact ⟨.tuple #[.slice none 0 0, iv (0)], none, 0, 0, rfl⟩) (fun Wx hE hF => ?_) (fun v Wx Wy ho hE => trivial) (fun v hv => ?_)
      · obtain ⟨a0, b0, he, g1, g2⟩ := hF _ (List.Mem.head _) (by kernel_rfl)
        cases he
        refine does_enter 41 #[lv G1 a6 b6] (by go_simp; try rfl) ?_
        refine (HPD1.out Wx a6 b6 g1 g2).mono ?_
        rintro e W' ⟨o, n, c, rfl, hb⟩
        exact ⟨_, rfl, ⟨_, _, _, rfl⟩, trivial, Ext.of_below hb⟩
      obtain ⟨o7, n7, c7, rfl⟩ := hv
      simp only [Act.put, List.setIfInBounds_toArray, List.set_cons_succ, List.set_cons_zero]
      repeat (first | (refine tree_det (by rfl) _ (by rfl) (fun W hW => by go_simp; (try simp (disch := omega) only [IntWalk.i64_in]); try rfl) ?_; simp only [Act.put, List.setIfInBounds_toArray, List.set_cons_succ, List.set_cons_zero]) | (refine tree_skip (by rfl) (by rfl) ?_; simp only [Act.put, List.setIfInBounds_toArray, List.set_cons_succ, List.set_cons_zero]))
      intro W6 hE hF
      have hb := Ext.below (show Ext [] W5 W6 from hE)
      clear hE hF
      have HK6 := Lib.hid (HK5.out.next hb)
      clear hb
      (try clear c0 f0)
      obtain ⟨c0, f0, l0⟩ := cells_of_block HK6.out.blk
      go_wp2_with fail
      refine wp_region_rg 13 [] none [(2, Spec.val (iv FU)), (5, ⟨fun _ v => ∃ c, v = lv G2 (.slice ot l.field.tallies.length ct) c, fun _ v Wx => ∃ c, v = lv G2 (.slice ot l.field.tallies.length ct) c ∧ TriplesAt Wx c (G2).notes⟩), (6, ⟨fun _ v => ∃ a b, v = lv G2 a b, fun _ v Wx => ∃ a b, v = lv G2 a b ∧ TalliesAt Wx a (G2).field.tallies ∧ TriplesAt Wx b (G2).notes⟩), (7, ⟨fun _ v => ∃ o n c, v = .tuple #[.slice o n c, iv (if pb = true then 0 else 11)], fun _ _ _ => True⟩)] (by as_aux_lemma => kernel_rfl) (by as_aux_lemma => kernel_rfl) ?_
      simp only [List.take_succ_cons, List.take_zero, List.drop_succ_cons, List.drop_zero]
      repeat (first | (refine tree_det (by rfl) _ (by rfl) (fun W hW => by go_simp; (try simp (disch := omega) only [IntWalk.i64_in]); try rfl) ?_; simp only [Act.put, List.setIfInBounds_toArray, List.set_cons_succ, List.set_cons_zero]) | (refine tree_skip (by rfl) (by rfl) ?_; simp only [Act.put, List.setIfInBounds_toArray, List.set_cons_succ, List.set_cons_zero]))
      refine tree_val _ (by rfl) (by rfl) 63 _ (fun W hW => by go_simp; try rfl) (fun W hE hF => by exact HFUL.out W (HA.out.2.below (bgo HK6.out.below (Ext.below (show Ext [] W6 W from hE))) (Nat.le_refl _))) ?_
      simp only [Act.put, List.setIfInBounds_toArray, List.set_cons_succ, List.set_cons_zero]
      repeat (first | (refine tree_det (by rfl) _ (by rfl) (fun W hW => by go_simp; (try simp (disch := omega) only [IntWalk.i64_in]); try rfl) ?_; simp only [Act.put, List.setIfInBounds_toArray, List.set_cons_succ, List.set_cons_zero]) | (refine tree_skip (by rfl) (by rfl) ?_; simp only [Act.put, List.setIfInBounds_toArray, List.set_cons_succ, List.set_cons_zero]))
      refine tree_some _ (by rfl) (by rfl) (by exact ⟨lv G2 (.slice ot l.field.tallies.length ct) (.slice none 0 0), _, rfl⟩) (fun Wx hE hF => ?_) (fun v Wx Wy ho hE => ?_) (fun v hv => ?_)
      · have hE' : Ext [] W6 Wx := hE
        refine does_enter 44 #[lv l (.slice ot l.field.tallies.length ct) (.slice on l.notes.length cn), iv M2] (by go_simp; try rfl) ?_
        refine (HSM2.out Wx (HA.out.1.below (bgo HK6.out.below hE'.below) (Nat.le_refl _)) (HA.out.2.below (bgo HK6.out.below hE'.below) (Nat.le_refl _))).mono ?_
        rintro e W' ⟨c0', rfl, hc0, hb⟩
        exact ⟨_, rfl, ⟨_, rfl⟩, ⟨_, rfl, hc0⟩, Ext.of_below hb⟩
      · obtain ⟨c0', rfl, g1⟩ := ho
        exact ⟨_, rfl, g1.below (Ext.below (show Ext [] Wx Wy from hE)) (Nat.le_refl _)⟩
      obtain ⟨c5, rfl⟩ := hv
      simp only [Act.put, List.setIfInBounds_toArray, List.set_cons_succ, List.set_cons_zero]
      repeat (first | (refine tree_det (by rfl) _ (by rfl) (fun W hW => by go_simp; (try simp (disch := omega) only [IntWalk.i64_in]); try rfl) ?_; simp only [Act.put, List.setIfInBounds_toArray, List.set_cons_succ, List.set_cons_zero]) | (refine tree_skip (by rfl) (by rfl) ?_; simp only [Act.put, List.setIfInBounds_toArray, List.set_cons_succ, List.set_cons_zero]))
      refine tree_some _ (by rfl) (by rfl) (by exact ⟨lv G2 (.slice none 0 0) (.slice none 0 0), _, _, rfl⟩) (fun Wx hE hF => ?_) (fun v Wx Wy ho hE => ?_) (fun v hv => ?_)
      · have hE' : Ext [] W6 Wx := hE
        obtain ⟨c5', he, g1⟩ := hF _ (List.Mem.head _) (by kernel_rfl)
        cases he
        refine does_enter 22 #[lv G2 (.slice ot l.field.tallies.length ct) c5] (by go_simp; try rfl) ?_
        refine (HLD2.out Wx c5 (HA.out.1.below (bgo HK6.out.below hE'.below) (Nat.le_refl _)) g1).mono ?_
        rintro e W' ⟨a0, b0, rfl, ht0, hn0, hb⟩
        exact ⟨_, rfl, ⟨_, _, rfl⟩, ⟨_, _, rfl, ht0, hn0⟩, Ext.of_below hb⟩
      · obtain ⟨a0, b0, rfl, g1, g2⟩ := ho
        have hb := Ext.below (show Ext [] Wx Wy from hE)
        exact ⟨_, _, rfl, g1.below hb (Nat.le_refl _), g2.below hb (Nat.le_refl _)⟩
      obtain ⟨a6, b6, rfl⟩ := hv
      simp only [Act.put, List.setIfInBounds_toArray, List.set_cons_succ, List.set_cons_zero]
      repeat (first | (refine tree_det (by rfl) _ (by rfl) (fun W hW => by go_simp; (try simp (disch := omega) only [IntWalk.i64_in]); try rfl) ?_; simp only [Act.put, List.setIfInBounds_toArray, List.set_cons_succ, List.set_cons_zero]) | (refine tree_skip (by rfl) (by rfl) ?_; simp only [Act.put, List.setIfInBounds_toArray, List.set_cons_succ, List.set_cons_zero]))
      refine tree_some _ (by rfl) (by rfl) (by exact ⟨.tuple #[.slice none 0 0, iv (if pb = true then 0 else 11)], none, 0, 0, rfl⟩) (fun Wx hE hF => ?_) (fun v Wx Wy ho hE => trivial) (fun v hv => ?_)
      · obtain ⟨a0, b0, he, g1, g2⟩ := hF _ (List.Mem.head _) (by kernel_rfl)
        cases he
        refine does_enter 41 #[lv G2 a6 b6] (by go_simp; try rfl) ?_
        refine (HPD2.out Wx a6 b6 g1 g2).mono ?_
        rintro e W' ⟨o, n, c, rfl, hb⟩
        exact ⟨_, rfl, ⟨_, _, _, rfl⟩, trivial, Ext.of_below hb⟩
      obtain ⟨o7, n7, c7, rfl⟩ := hv
      simp only [Act.put, List.setIfInBounds_toArray, List.set_cons_succ, List.set_cons_zero]
      repeat (first | (refine tree_det (by rfl) _ (by rfl) (fun W hW => by go_simp; (try simp (disch := omega) only [IntWalk.i64_in]); try rfl) ?_; simp only [Act.put, List.setIfInBounds_toArray, List.set_cons_succ, List.set_cons_zero]) | (refine tree_skip (by rfl) (by rfl) ?_; simp only [Act.put, List.setIfInBounds_toArray, List.set_cons_succ, List.set_cons_zero]))
      intro W7 hE hF
      have hb := Ext.below (show Ext [] W6 W7 from hE)
      clear hE hF
      have HK7 := Lib.hid (HK6.out.next hb)
      clear hb
      (try clear c0 f0)
      obtain ⟨c0, f0, l0⟩ := cells_of_block HK7.out.blk
      clear hand han1 han2
      cases pb
      case false =>
        rw [if_neg (by simp)]
        have HK9 := Lib.hid HK7.out
        generalize W7 = W9 at *
        have hrt := HRT.out
        obtain ⟨K, hK⟩ : ∃ K, r + 1 = K := ⟨_, rfl⟩
        have hK3 : 1 ≤ K ∧ K ≤ 3 := by omega
        have HKK := Lib.hid hK3
        have hbx := HM.out.2.1.box
        have hra := HM.out.2.1.rate
        have mulb : ∀ x : Int, 0 ≤ x → 0 ≤ K * x ∧ K * x ≤ 3 * x := fun x hx => ⟨Int.mul_nonneg (by omega) hx, Int.mul_le_mul_of_nonneg_right hK3.2 hx⟩
        have HMB := Lib.hid mulb
        have m0 := mulb l.rate (by omega)
        have m1 := mulb l.box.1 (by omega)
        have m2 := mulb l.box.2 (by omega)
        obtain ⟨kr, hkr⟩ : ∃ x, K * l.rate = x := ⟨_, rfl⟩
        obtain ⟨k0, hk0⟩ : ∃ x, K * l.box.1 = x := ⟨_, rfl⟩
        obtain ⟨k1, hk1⟩ : ∃ x, K * l.box.2 = x := ⟨_, rfl⟩
        rw [hkr] at m0
        rw [hk0] at m1
        rw [hk1] at m2
        have hkrb : 0 ≤ kr ∧ kr ≤ 150 := by omega
        have hk0b : 0 ≤ k0 ∧ k0 ≤ 6000 := by omega
        have hk1b : 0 ≤ k1 ∧ k1 ≤ 6000 := by omega
        have HKR := Lib.hid (And.intro hkr (And.intro hk0 hk1))
        clear mulb m0 m1 m2 hbx hra
        go_upto_region 20 with (fail)
        refine gworld fun W10 hW10 => ?_
        have hx : W10.heap[W9.heap.size]? = some (.cells (lcells l (.slice ot l.field.tallies.length ct) (.slice on l.notes.length cn)) 30 (0, 0)) := by rw [hW10]; exact heap_new0 _ _
        have hb : Below W9.heap.size W9 W10 := by rw [hW10]; exact bgoAlloc (Below.refl _ _) _
        obtain ⟨b1, hb1⟩ : ∃ b1, W9.heap.size = b1 := ⟨_, rfl⟩
        have hwb1 : w.heap.size < b1 := by omega
        have hne1 : w.heap.size ≠ b1 := by omega
        have hne2 : b1 ≠ w.heap.size := by omega
        have HK10 := Lib.hid ((HK9.out.next hb).more hx (last_block hx))
        have HB10 := Lib.hid hb
        have hs10 : b1 < W10.heap.size := by have := (cells_of_block hx).2.2; omega
        rw [hb1] at HK10 ⊢
        clear hx hb hW10 c0 f0
        obtain ⟨c0, f0, l0x⟩ := cells_of_block HK10.out.blk.2
        obtain ⟨c1, f1, l1x⟩ := cells_of_block HK10.out.blk.1
        refine wp_region_rg 17 [b1] (some 16) [(16, ⟨fun _ v => v = undef, fun _ _ Wx => Wx.heap[b1]? = some (.cells (lcells ⟨l.field, kr, l.box, l.notes⟩ (.slice ot l.field.tallies.length ct) (.slice on l.notes.length cn)) 30 (0, 0))⟩)] (by as_aux_lemma => kernel_rfl) (by as_aux_lemma => kernel_rfl) ?_
        simp only [List.take_succ_cons, List.take_zero, List.drop_succ_cons, List.drop_zero]
        repeat (first | (refine tree_det (by rfl) _ (by rfl) (fun W hW => by go_simp; (try simp (disch := omega) only [IntWalk.i64_in]); try rfl) ?_; simp only [Act.put, List.setIfInBounds_toArray, List.set_cons_succ, List.set_cons_zero]) | (refine tree_skip (by rfl) (by rfl) ?_; simp only [Act.put, List.setIfInBounds_toArray, List.set_cons_succ, List.set_cons_zero]))
        refine tree_some _ (by rfl) (by rfl) (by exact ⟨_, rfl⟩) (fun W hE hF => ?_) (fun v Wa Wb ho hE => ?_) (fun v hv => ?_)
        · have hE' : Ext [] W10 W := hE
          have hbW := (hE'.block _ l1x (by simp)).trans HK10.out.blk.1
          obtain ⟨hcw, hfw, hsw⟩ := cells_of_block hbW
          refine does_skip (W' := W.setCell ⟨b1, 5, none⟩ (iv kr)) (by go_simp; try rfl) ⟨rfl, set_block hbW _, ext_set _ ⟨b1, 5, none⟩ _⟩
        · have hE' : Ext [] Wa Wb := hE
          exact (hE'.block _ (Array.getElem?_eq_some_iff.1 ho).1 (by simp)).trans ho
        obtain rfl : v = _ := hv
        simp only [Act.put]
        intro Wc hE hF
        have hE' : Ext [b1] W10 Wc := hE
        have HRW := Lib.hid (show Wc.heap[b1]? = some (.cells (lcells ⟨l.field, kr, l.box, l.notes⟩ (.slice ot l.field.tallies.length ct) (.slice on l.notes.length cn)) 30 (0, 0)) from hF _ (List.Mem.head _))
        have hlc := (hE'.block _ l0x (by simpa using hne1)).trans HK10.out.blk.2
        have HLC := Lib.hid hlc
        have HBc := Lib.hid (below_of_ext HB10.out hE' (by omega))
        clear hE hF hE' c0 f0 c1 f1
        obtain ⟨c0, f0, l0c⟩ := cells_of_block hlc
        obtain ⟨c1, f1, l1c⟩ := cells_of_block HRW.out
        clear hlc
        go_upto_region 21 with (fail)
        refine gworld fun W11 hW11 => ?_
        have hx11 : W11.heap[b1]? = some (.cells (lcells ⟨l.field, kr, (k0, k1), l.notes⟩ (.slice ot l.field.tallies.length ct) (.slice on l.notes.length cn)) 30 (0, 0)) := by rw [hW11]; exact set_block (set_block HRW.out _) _
        have hl11 : W11.heap[w.heap.size]? = some (.cells (lcells l (.slice ot l.field.tallies.length ct) (.slice on l.notes.length cn)) 30 (0, 0)) := by rw [hW11]; exact (Below.heap_setCell _ _ _ _ hne1).trans ((Below.heap_setCell _ _ _ _ hne1).trans HLC.out)
        have hb11 : Below W9.heap.size W9 W11 := by rw [hW11]; exact bgoSet (bgoSet HBc.out (by show W9.heap.size ≤ b1; omega) _) (by show W9.heap.size ≤ b1; omega) _
        have H11 := Lib.hid (And.intro hx11 (And.intro hl11 hb11))
        have HSR := Lib.hid (show SlAt 3 W11 (.slice on l.notes.length cn) l.notes.length (tripleCells l.notes) from HA.out.2.below (bgo HK9.out.below hb11) (Nat.le_refl _))
        clear hW11 c0 f0 c1 f1 l0c l1c l0x l1x
        obtain ⟨c0, f0, l0c⟩ := cells_of_block hl11
        obtain ⟨c1, f1, l1c⟩ := cells_of_block hx11
        clear hx11 hl11 hb11
        go_wp2_with (at_builtin; go_loud (refine wpList_append_at rfl _ _ tNotes9L rfl W11.heap.size (.slice (some ⟨W11.heap.size, 0, none⟩) 0 0) 0 [] rfl ⟨by simp, .inr ⟨_, 0, #[], rfl, Nat.le_refl _, heap_new0 _ _, Nat.le_refl _, Nat.zero_le _, by simp, by simp⟩⟩ (.slice on l.notes.length cn) l.notes.length (tripleCells l.notes) rfl (HSR.out.alloc _) (one_triples _) (by omega) (by omega) (by simp) ?_))
        intro v' W12 hown12 hgr12 _
        (try rw [Nat.zero_add] at hown12)
        (try rw [List.nil_append] at hown12)
        obtain ⟨o3, c3, rfl⟩ := owns_slice hown12
        have hB12 : Below W11.heap.size W11 W12 := Below.grown (bgoAlloc (Below.refl _ _) _) hgr12 (by simp) (fun g e => by simp [Value.ownBlock] at e; omega)
        have hx12 := (hB12.block b1 l1c).trans H11.out.1
        have hl12 := (hB12.block w.heap.size l0c).trans H11.out.2.1
        have H12 := Lib.hid (And.intro hown12 (And.intro hB12 (And.intro hx12 hl12)))
        clear hown12 hgr12 hB12 c0 f0 c1 f1
        obtain ⟨c0, f0, l0d⟩ := cells_of_block hl12
        obtain ⟨c1, f1, l1d⟩ := cells_of_block hx12
        clear hx12 hl12
        go_upto_region 22 with (fail)
        refine gworld fun W13 hW13 => ?_
        have hx13 : W13.heap[b1]? = some (.cells (lcells ⟨l.field, kr, (k0, k1), l.notes⟩ (.slice ot l.field.tallies.length ct) (.slice o3 l.notes.length c3)) 30 (0, 0)) := by rw [hW13]; exact set_block H12.out.2.2.1 _
        have hl13 : W13.heap[w.heap.size]? = some (.cells (lcells l (.slice ot l.field.tallies.length ct) (.slice on l.notes.length cn)) 30 (0, 0)) := by rw [hW13]; exact (Below.heap_setCell _ _ _ _ hne1).trans H12.out.2.2.2
        have hb13 : Below W9.heap.size W9 W13 := by rw [hW13]; exact bgoSet (bgo H11.out.2.2 H12.out.2.1) (by show W9.heap.size ≤ b1; omega) _
        have ho13 : W13.ownsRow W11.heap.size 77 3 (.slice o3 l.notes.length c3) l.notes.length (tripleCells l.notes) := by
          rw [hW13]
          exact owns_keep H12.out.1 fun g hg => Below.heap_setCell _ _ _ _ (by have := (owns_ge H12.out.1 g hg).1; show g ≠ b1; omega)
        have H13 := Lib.hid (And.intro ho13 (And.intro hx13 (And.intro hl13 hb13)))
        clear hW13 hx13 hl13 hb13 ho13 c0 f0 c1 f1 l0d l1d
        go_wp2_with fail
        go_loopw [18] (fun u wr => ∃ i : Nat, i ≤ l.notes.length ∧ u = .int .i64 i ∧ wr.ownsRow W11.heap.size 77 3 (.slice o3 l.notes.length c3) l.notes.length (tripleCells (scaTo K l.notes i)) ∧ wr.heap[b1]? = some (.cells (lcells ⟨l.field, kr, (k0, k1), l.notes⟩ (.slice ot l.field.tallies.length ct) (.slice o3 l.notes.length c3)) 30 (0, 0)) ∧ wr.heap[w.heap.size]? = some (.cells (lcells l (.slice ot l.field.tallies.length ct) (.slice on l.notes.length cn)) 30 (0, 0)) ∧ Below W9.heap.size W9 wr) (fun u _ => l.notes.length - (intOf u).toNat)
        case atStart => exact ⟨0, Nat.zero_le _, rfl, by rw [scaTo_zero]; exact H13.out.1, H13.out.2.1, H13.out.2.2.1, H13.out.2.2.2⟩
        case round =>
          obtain ⟨i, hi, rfl, how, hbx, hbl, hB⟩ := hrel
          have hb1s := (cells_of_block H11.out.1).2.2
          by_cases hlt : i < l.notes.length
          case pos =>
            have hltI : (i : Int) < l.notes.length := by omega
            have hnt := HA.out.2.below (bgo HK9.out.below hB) (Nat.le_refl _)
            obtain ⟨b9, f9, hv9, hg9, d0, d1, d2⟩ := TriplesAt.cell hnt hlt
            obtain ⟨_, ⟨_, h2⟩ | ⟨g, cap, cur, h2, hbg, hgb, hnc, hcm, hcs, htk⟩⟩ := id how
            · omega
            cases h2
            have hgW : W11.heap.size ≤ g := hbg
            have hgb1 : ¬ g = b1 := by omega
            have hgb2 : ¬ b1 = g := by omega
            have hgw : ¬ w.heap.size = g := by omega
            obtain ⟨_, f8, hv8', hg8, e0, e1, e2⟩ := TriplesAt.cell (l := scaTo K l.notes i) (SlAt.of_owns how) (k := i) (by rw [scaTo_len]; exact hlt)
            cases hv8'
            rw [Nat.zero_add] at e0 e1 e2
            have lg := (cells_of_block hgb).2.2
            have hnb := HM.out.2.1.notes _ (List.getElem_mem hlt)
            have hsg := scaTo_get K hlt
            have hss := scaTo_succ K hlt
            generalize l.notes[i] = y at *
            obtain ⟨y0, y1, y2⟩ := y
            simp only at d0 d1 d2 hnb
            have hm1 := HMB.out y1 (by omega)
            have hm2 := HMB.out y2 (by omega)
            obtain ⟨a, ha⟩ : ∃ a, K * y1 = a := ⟨_, rfl⟩
            obtain ⟨bb, hbb⟩ : ∃ a, K * y2 = a := ⟨_, rfl⟩
            rw [ha] at hm1
            rw [hbb] at hm2
            have hab : 0 ≤ a ∧ a ≤ 6000 := by omega
            have hbbb : 0 ≤ bb ∧ bb ≤ 6000 := by omega
            have hss' : (scaTo K l.notes i).set i (y0, a, bb) = scaTo K l.notes (i + 1) := by rw [← hss, ← ha, ← hbb]; rfl
            have hts := triple_setL (scaTo K l.notes i) i y0 y1 y2 a bb hsg
            rw [hss'] at hts
            obtain ⟨c0, f0, l0e⟩ := cells_of_block hbl
            obtain ⟨c1, f1, l1e⟩ := cells_of_block hbx
            have HG := Lib.hid (And.intro how (And.intro hgb (And.intro hnc (And.intro hcm (And.intro hcs (And.intro htk hts))))))
            have HBB := Lib.hid (And.intro hbx (And.intro hbl hB))
            have HEE := Lib.hid (And.intro e1 e2)
            cases hv9
            clear how hgb hnc hcm hcs htk hts hbx hbl hB hnt hnb hsg hss hss' hm1 hm2 e0 e1 e2
            go_wp2_with fail
            refine wp_region_rg 24 [] none [] (by as_aux_lemma => kernel_rfl) (by as_aux_lemma => kernel_rfl) ?_
            simp only [List.take_succ_cons, List.take_zero, List.drop_succ_cons, List.drop_zero]
            repeat (first | (refine tree_det (by rfl) _ (by rfl) (fun W hW => by go_simp; (try simp (disch := omega) only [IntWalk.i64_in]); try rfl) ?_; simp only [Act.put, List.setIfInBounds_toArray, List.set_cons_succ, List.set_cons_zero]) | (refine tree_skip (by rfl) (by rfl) ?_; simp only [Act.put, List.setIfInBounds_toArray, List.set_cons_succ, List.set_cons_zero]))
            intro X hE hF
            have hE' : Ext [] wr X := hE
            have hgX := (hE'.block g lg (by simp)).trans HG.out.2.1
            have e1 := (hE'.cell g _ lg (by simp)).trans HEE.out.1
            have e2 := (hE'.cell g _ lg (by simp)).trans HEE.out.2
            have HX := Lib.hid (And.intro hgX hE')
            obtain ⟨_, fg, lgX⟩ := cells_of_block hgX
            clear hE hF hE' hgX c0 f0 c1 f1 d0 d1 d2
            go_wp2_with fail
            obtain ⟨Z, hZ⟩ : ∃ Z, (X.setCell ⟨g, i * 3 + 1, none⟩ (iv a)).setCell ⟨g, i * 3 + 1 + 1, none⟩ (iv bb) = Z := ⟨_, rfl⟩
            have hgZ : Z.heap[g]? = some (.cells ((cur.setIfInBounds (i * 3 + 1) (iv a)).setIfInBounds (i * 3 + 1 + 1) (iv bb)) 77 (0, 0)) := by
              rw [← hZ]
              exact set_block (set_block HX.out.1 _) _
            have hown : Z.ownsRow W11.heap.size 77 3 (.slice (some ⟨g, 0, none⟩) l.notes.length c3) l.notes.length (tripleCells (scaTo K l.notes (i + 1))) := by
              refine ⟨?_, .inr ⟨g, c3, _, rfl, hgW, hgZ, HG.out.2.2.1, HG.out.2.2.2.1, by simpa using HG.out.2.2.2.2.1, ?_⟩⟩
              · have := HG.out.1.1
                rw [← HG.out.2.2.2.2.2.2, List.length_set, List.length_set]
                exact this
              · rw [← HG.out.2.2.2.2.2.2, Array.toList_setIfInBounds, Array.toList_setIfInBounds, List.take_set, List.take_set, HG.out.2.2.2.2.2.1]
            have hbxZ : Z.heap[b1]? = some (.cells (lcells ⟨l.field, kr, (k0, k1), l.notes⟩ (.slice ot l.field.tallies.length ct) (.slice (some ⟨g, 0, none⟩) l.notes.length c3)) 30 (0, 0)) := by
              rw [← hZ]
              exact (Below.heap_setCell _ _ _ _ (show b1 ≠ g by omega)).trans ((Below.heap_setCell _ _ _ _ (show b1 ≠ g by omega)).trans ((HX.out.2.block _ l1e (by simp)).trans HBB.out.1))
            have hblZ : Z.heap[w.heap.size]? = some (.cells (lcells l (.slice ot l.field.tallies.length ct) (.slice (some ⟨b9, f9, none⟩) l.notes.length cn)) 30 (0, 0)) := by
              rw [← hZ]
              exact (Below.heap_setCell _ _ _ _ (show w.heap.size ≠ g by omega)).trans ((Below.heap_setCell _ _ _ _ (show w.heap.size ≠ g by omega)).trans ((HX.out.2.block _ l0e (by simp)).trans HBB.out.2.1))
            have hBZ : Below W9.heap.size W9 Z := by
              rw [← hZ]
              exact bgoSet (bgoSet (bgo HBB.out.2.2 HX.out.2.below) (by show W9.heap.size ≤ g; omega) _) (by show W9.heap.size ≤ g; omega) _
            have HZ := Lib.hid (And.intro hown (And.intro hbxZ (And.intro hblZ hBZ)))
            clear hown hbxZ hblZ hBZ hgZ e1 e2 fg
            go_roundw
            case rel =>
              (try rw [hZ])
              exact ⟨i + 1, by omega, by go_num, HZ.out.1, HZ.out.2.1, HZ.out.2.2.1, HZ.out.2.2.2⟩
            case measure => simp [intOf]; omega
          obtain rfl : i = l.notes.length := by omega
          rw [scaTo_all] at how
          have hT := SlAt.of_owns how
          obtain ⟨Y, hY⟩ : ∃ Y, scaL K l = Y := ⟨_, rfl⟩
          have hYf : Y.field = l.field := by rw [← hY]; rfl
          have hYn : Y.notes = l.notes.map (scaN K) := by rw [← hY]; rfl
          have hYl : Y.notes.length = l.notes.length := by rw [hYn, List.length_map]
          have hYc : lcells ⟨l.field, kr, (k0, k1), l.notes⟩ (.slice ot l.field.tallies.length ct) (.slice o3 l.notes.length c3) = lcells Y (.slice ot l.field.tallies.length ct) (.slice o3 l.notes.length c3) := by rw [← hY, ← HKR.out.1, ← HKR.out.2.1, ← HKR.out.2.2]; rfl
          rw [hYc] at hbx
          have hTY : TriplesAt wr (.slice o3 l.notes.length c3) Y.notes := by unfold TriplesAt; rw [hYl, hYn]; exact hT
          have HAY := Lib.hid (show TalliesAt w (.slice ot l.field.tallies.length ct) Y.field.tallies from by rw [hYf]; exact HA.out.1)
          have HK14 := Lib.hid (((HK9.out.next hB).more hbx (last_block hbx)).add hTY (last_at hTY))
          have hkp : 0 < K := by omega
          have HLY := Lib.hid (show leaveW Y = L from by rw [← hY, sca_leave hkp, HLV.out])
          have hask : faultW Y = 0 → askedErr Y true = askedErr l true := fun h => by rw [← hY] at h ⊢; exact sca_asked hkp HM.out.1 h
          have hern : ∀ i, askedErr l true = 0 → askedErr Y true = 0 → i < l.field.weeders.toNat → (bndL partE Y (duesT Y)).getD i (0, 0) = scaR K ((bndL partE l (duesT l)).getD i (0, 0)) := fun i h1 h2 h3 => by rw [← hY] at h2 ⊢; exact sca_earned hkp h1 h2 h3
          have HSC := Lib.hid (And.intro hask hern)
          have hYt : Y.field.tallies.length ≤ 5 := by rw [hYf]; exact HM.out.2.2.1
          have hYl5 : Y.notes.length ≤ 5 := by omega
          have hYw : Y.field.weeders = l.field.weeders := by rw [hYf]
          have HYS := Lib.hid (And.intro hYt (And.intro hYl5 hYw))
          obtain ⟨q, hq⟩ : ∃ q, faultW Y = q := ⟨_, rfl⟩
          have HQ := Lib.hid hq
          have hnlt : ¬ (l.notes.length : Int) < l.notes.length := by omega
          generalize wr = W14 at *
          clear how hT hY hYf hYn hYl hYc hTY hask hern hYt hYl5 hYw hq hbx hbl hB
          obtain ⟨c0, f0, l0f⟩ := cells_of_block HK14.out.blk.2
          obtain ⟨c1, f1, l1f⟩ := cells_of_block HK14.out.blk.1
          go_wp2_with fail
          refine (zfault_any Y (.slice ot l.field.tallies.length ct) (.slice o3 l.notes.length c3) W14 (HAY.out.below HK14.out.below (Nat.le_refl _)) HK14.out.is.1).mono ?_
          rintro e W15 ⟨rfl, hb⟩
          rw [HQ.out]
          have HK15 := Lib.hid (HK14.out.next hb)
          clear hb
          (try clear c0 f0)
          (try clear c1 f1)
          obtain ⟨c0, f0, l0⟩ := cells_of_block HK15.out.blk.2
          obtain ⟨c1, f1, l1⟩ := cells_of_block HK15.out.blk.1
          by_cases hq0 : q = 0
          case neg =>
            have hqb : (q != 0) = true := by simpa using hq0
            go_wp2_with fail
            refine (awake_any _).mono ?_
            rintro e W16 ⟨rfl, hb⟩
            have HB16 := Lib.hid (bgo HK15.out.below hb)
            clear hb
            go_wp2_with fail
            go_returns
            exact ⟨by simp, HB16.out⟩
          subst hq0
          have HAE := Lib.hid (HSC.out.1 HQ.out)
          go_wp2_with fail
          refine (Ledger_any (Y) ((.slice ot l.field.tallies.length ct)) ((.slice o3 l.notes.length c3)) W15 (HAY.out.below HK15.out.below (Nat.le_refl _)) (HK15.out.is.1) (by have := HYS.out.1; omega) (by have := HYS.out.2.1; omega)).mono ?_
          rintro e W16 ⟨a16, b16, rfl, ht16, hn16, hb⟩
          have HL16 := Lib.hid (And.intro ht16 hn16)
          clear ht16 hn16
          have HK16 := Lib.hid (HK15.out.next hb)
          clear hb
          (try clear c0 f0)
          (try clear c1 f1)
          obtain ⟨c0, f0, l0⟩ := cells_of_block HK16.out.blk.2
          obtain ⟨c1, f1, l1⟩ := cells_of_block HK16.out.blk.1
          go_wp2_with fail
          refine (Leave_any (Y) a16 b16 W16 HL16.out.1 HL16.out.2).mono ?_
          rintro e W17 ⟨hb, ⟨hne, _⟩ | ⟨_, u17, rfl, hu17⟩⟩
          · exact absurd (HQ.out) hne
          rw [HLY.out] at hu17
          obtain ⟨uo17, uc17, rfl⟩ := hu17.open
          have HU17 := Lib.hid hu17
          clear hu17
          have HK17 := Lib.hid (HK16.out.next hb)
          clear hb
          (try clear c0 f0)
          (try clear c1 f1)
          obtain ⟨c0, f0, l0⟩ := cells_of_block HK17.out.blk.2
          obtain ⟨c1, f1, l1⟩ := cells_of_block HK17.out.blk.1
          have HK17 := Lib.hid (HK17.out.add (show IntsAt W17 (.slice uo17 (L).length uc17) (L) from HU17.out) (last_at HU17.out))
          go_wp2_with fail
          refine (Ledger_any (l) (.slice ot l.field.tallies.length ct) (.slice on l.notes.length cn) W17 (HA.out.1.below HK17.out.below (Nat.le_refl _)) (HA.out.2.below HK17.out.below (Nat.le_refl _)) (by have := HM.out.2.2.1; omega) (by have := HM.out.2.2.2.1; omega)).mono ?_
          rintro e W18 ⟨a18, b18, rfl, ht18, hn18, hb⟩
          have HL18 := Lib.hid (And.intro ht18 hn18)
          clear ht18 hn18
          have HK18 := Lib.hid (HK17.out.next hb)
          clear hb
          (try clear c0 f0)
          (try clear c1 f1)
          obtain ⟨c0, f0, l0⟩ := cells_of_block HK18.out.blk.2
          obtain ⟨c1, f1, l1⟩ := cells_of_block HK18.out.blk.1
          go_wp2_with fail
          obtain hao | hao := asked_err HM.out.1
          case inr =>
            have HA1 := Lib.hid hao
            have HAY1 := Lib.hid (HAE.out.trans hao)
            clear hao
            refine (Earned_any l a18 b18 W18 HL18.out.1 HL18.out.2).mono ?_
            rintro e W19 ⟨hb, ⟨_, rfl⟩ | ⟨h0, _⟩⟩
            case inr => exact absurd ((HA1.out).symm.trans h0) (by decide)
            rw [HA1.out]
            have HK19 := Lib.hid (HK18.out.next hb)
            clear hb
            (try clear c0 f0)
            (try clear c1 f1)
            obtain ⟨c0, f0, l0⟩ := cells_of_block HK19.out.blk.2
            obtain ⟨c1, f1, l1⟩ := cells_of_block HK19.out.blk.1
            go_wp2_with fail
            refine (Ledger_any (Y) ((.slice ot l.field.tallies.length ct)) ((.slice o3 l.notes.length c3)) W19 (HAY.out.below HK19.out.below (Nat.le_refl _)) (HK19.out.is.2.1) (by have := HYS.out.1; omega) (by have := HYS.out.2.1; omega)).mono ?_
            rintro e W20 ⟨a20, b20, rfl, ht20, hn20, hb⟩
            have HL20 := Lib.hid (And.intro ht20 hn20)
            clear ht20 hn20
            have HK20 := Lib.hid (HK19.out.next hb)
            clear hb
            (try clear c0 f0)
            (try clear c1 f1)
            obtain ⟨c0, f0, l0⟩ := cells_of_block HK20.out.blk.2
            obtain ⟨c1, f1, l1⟩ := cells_of_block HK20.out.blk.1
            go_wp2_with fail
            refine (Earned_any Y a20 b20 W20 HL20.out.1 HL20.out.2).mono ?_
            rintro e W21 ⟨hb, ⟨_, rfl⟩ | ⟨h0, _⟩⟩
            case inr => exact absurd (HAY1.out.symm.trans h0) (by decide)
            rw [HAY1.out]
            have HK21 := Lib.hid (HK20.out.next hb)
            clear hb
            (try clear c0 f0)
            (try clear c1 f1)
            obtain ⟨c0, f0, l0⟩ := cells_of_block HK21.out.blk.2
            obtain ⟨c1, f1, l1⟩ := cells_of_block HK21.out.blk.1
            go_wp2_with fail
            refine (same_any L L (.slice uo3 L.length uc3) (.slice uo17 L.length uc17) W21 HK21.out.is.2.2.1 HK21.out.is.1).mono ?_
            rw [beq_self_eq_true]
            rintro e W22 ⟨rfl, hb⟩
            have HK22 := Lib.hid (HK21.out.next hb)
            clear hb
            (try clear c0 f0)
            (try clear c1 f1)
            obtain ⟨c0, f0, l0⟩ := cells_of_block HK22.out.blk.2
            obtain ⟨c1, f1, l1⟩ := cells_of_block HK22.out.blk.1
            go_wp2_with fail
            clear c0 f0 c1 f1
            go_loopw [25] (fun u wr => u = iv 0 ∧ Below W22.heap.size W22 wr) (fun _ _ => 0)
            case atStart => exact ⟨rfl, Below.refl _ _⟩
            case round =>
              obtain ⟨rfl, hb⟩ := hrel
              generalize wr = W23 at *
              have HK23 := Lib.hid (HK22.out.next hb)
              clear hb
              (try clear c0 f0)
              (try clear c1 f1)
              obtain ⟨c0, f0, l0⟩ := cells_of_block HK23.out.blk.2
              obtain ⟨c1, f1, l1⟩ := cells_of_block HK23.out.blk.1
              go_wp2_with fail
              refine (awake_any _).mono ?_
              rintro e W24 ⟨rfl, hb⟩
              have HB24 := Lib.hid (bgo HK23.out.below hb)
              clear hb
              go_wp2_with fail
              go_returns
              exact ⟨by simp, HB24.out⟩
          have HA1 := Lib.hid hao
          have HAY1 := Lib.hid (HAE.out.trans hao)
          obtain ⟨hS, hsm⟩ := asked_ok hao
          obtain ⟨hSY, hsmY⟩ := asked_ok HAY1.out
          obtain ⟨n, hnw⟩ : ∃ n : Nat, l.field.weeders = n := ⟨l.field.weeders.toNat, by have := HM.out.2.2.2.2.1; omega⟩
          have hwt : l.field.weeders.toNat = n := by omega
          have hn3 : n ≤ 3 := by have := HM.out.2.2.2.2.2; omega
          have t1 : (bndL partE l (duesT l)).length = n := by rw [least_len hS hsm]; exact hwt
          have t2 : (bndL partE Y (duesT Y)).length = n := by rw [least_len hSY hsmY, HYS.out.2.2]; exact hwt
          have hrr := fun (i : Nat) (hi : i < n) => HSC.out.2 i HA1.out HAY1.out (by omega)
          have hrb : ∀ i, i < n → (0 ≤ ((bndL partE l (duesT l)).getD i (0, 0)).1 ∧ ((bndL partE l (duesT l)).getD i (0, 0)).1 ≤ 350) ∧ (0 ≤ ((bndL partE l (duesT l)).getD i (0, 0)).2 ∧ ((bndL partE l (duesT l)).getD i (0, 0)).2 ≤ 350) := fun i hi => by
            have hh := bnd_hull hsm partE (i := i) (by omega)
            obtain ⟨y1, ⟨d1, hd1, _, rfl⟩, g1⟩ := hh.low.1
            obtain ⟨y2, ⟨d2, hd2, _, rfl⟩, g2⟩ := hh.high.1
            rw [← g1, ← g2]
            exact ⟨duesT_bd hS hd1 i (by omega), duesT_bd hS hd2 i (by omega)⟩
          obtain ⟨R1, hR1⟩ : ∃ R, bndL partE l (duesT l) = R := ⟨_, rfl⟩
          obtain ⟨R2, hR2⟩ : ∃ R, bndL partE Y (duesT Y) = R := ⟨_, rfl⟩
          rw [hR1] at t1
          rw [hR2] at t2
          simp only [hR1, hR2] at hrr hrb
          have HR1 := Lib.hid (And.intro hR1 t1)
          have HR2 := Lib.hid (And.intro hR2 t2)
          have HRR := Lib.hid (And.intro hrr hrb)
          clear hao hS hsm hSY hsmY hnw hwt t1 t2 hR1 hR2 hrr hrb
          refine (Earned_any (l) a18 b18 W18 HL18.out.1 HL18.out.2).mono ?_
          rintro e W19 ⟨hb, ⟨hne, _⟩ | ⟨_, u19, rfl, hu19⟩⟩
          · exact absurd (HA1.out) hne
          rw [HR1.out.1] at hu19
          obtain ⟨uo19, uc19, rfl⟩ := hu19.open
          have hv19 : SlAt 2 W19 (.slice uo19 n uc19) n (pairCells R1) := by have := PairsAt.at_ hu19 (HR1.out.2); rw [HR1.out.2] at this; exact this
          rw [HR1.out.2]
          have HV19 := Lib.hid hv19
          clear hu19 hv19
          have HK19 := Lib.hid (HK18.out.next hb)
          clear hb
          (try clear c0 f0)
          (try clear c1 f1)
          obtain ⟨c0, f0, l0⟩ := cells_of_block HK19.out.blk.2
          obtain ⟨c1, f1, l1⟩ := cells_of_block HK19.out.blk.1
          have HK19 := Lib.hid (HK19.out.add HV19.out (last_at HV19.out))
          go_wp2_with fail
          refine (Ledger_any (Y) ((.slice ot l.field.tallies.length ct)) ((.slice o3 l.notes.length c3)) W19 (HAY.out.below HK19.out.below (Nat.le_refl _)) (HK19.out.is.2.2.1) (by have := HYS.out.1; omega) (by have := HYS.out.2.1; omega)).mono ?_
          rintro e W20 ⟨a20, b20, rfl, ht20, hn20, hb⟩
          have HL20 := Lib.hid (And.intro ht20 hn20)
          clear ht20 hn20
          have HK20 := Lib.hid (HK19.out.next hb)
          clear hb
          (try clear c0 f0)
          (try clear c1 f1)
          obtain ⟨c0, f0, l0⟩ := cells_of_block HK20.out.blk.2
          obtain ⟨c1, f1, l1⟩ := cells_of_block HK20.out.blk.1
          go_wp2_with fail
          refine (Earned_any (Y) a20 b20 W20 HL20.out.1 HL20.out.2).mono ?_
          rintro e W21 ⟨hb, ⟨hne, _⟩ | ⟨_, u21, rfl, hu21⟩⟩
          · exact absurd (HAY1.out) hne
          rw [HR2.out.1] at hu21
          obtain ⟨uo21, uc21, rfl⟩ := hu21.open
          have hv21 : SlAt 2 W21 (.slice uo21 n uc21) n (pairCells R2) := by have := PairsAt.at_ hu21 (HR2.out.2); rw [HR2.out.2] at this; exact this
          rw [HR2.out.2]
          have HV21 := Lib.hid hv21
          clear hu21 hv21
          have HK21 := Lib.hid (HK20.out.next hb)
          clear hb
          (try clear c0 f0)
          (try clear c1 f1)
          obtain ⟨c0, f0, l0⟩ := cells_of_block HK21.out.blk.2
          obtain ⟨c1, f1, l1⟩ := cells_of_block HK21.out.blk.1
          have HK21 := Lib.hid (HK21.out.add HV21.out (last_at HV21.out))
          go_wp2_with fail
          refine (same_any L L (.slice uo3 L.length uc3) (.slice uo17 L.length uc17) W21 HK21.out.is.2.2.2.2.1 HK21.out.is.2.2.1).mono ?_
          rw [beq_self_eq_true]
          rintro e W22 ⟨rfl, hb⟩
          have HK22 := Lib.hid (HK21.out.next hb)
          clear hb
          (try clear c0 f0)
          (try clear c1 f1)
          obtain ⟨c0, f0, l0⟩ := cells_of_block HK22.out.blk.2
          obtain ⟨c1, f1, l1⟩ := cells_of_block HK22.out.blk.1
          go_wp2_with fail
          clear c0 f0 c1 f1
          go_loopw [25] (fun u wr => ∃ i : Nat, i ≤ n ∧ u = .int .i64 i ∧ Below W22.heap.size W22 wr) (fun u _ => n - (intOf u).toNat)
          case atStart => exact ⟨0, Nat.zero_le _, rfl, Below.refl _ _⟩
          case round =>
            obtain ⟨i, hi, rfl, hb⟩ := hrel
            generalize wr = W23 at *
            have HB23 := Lib.hid hb
            have HK23 := Lib.hid (HK22.out.next hb)
            clear hb
            (try clear c0 f0)
            (try clear c1 f1)
            obtain ⟨c0, f0, l0⟩ := cells_of_block HK23.out.blk.2
            obtain ⟨c1, f1, l1⟩ := cells_of_block HK23.out.blk.1
            clear c0 f0 c1 f1
            by_cases hlt : i < n
            · have hltI : (i : Int) < n := by omega
              have hi1 : i < R1.length := by rw [HR1.out.2]; exact hlt
              have hi2 : i < R2.length := by rw [HR2.out.2]; exact hlt
              obtain ⟨q1, s1, h1, j1, e0, e1⟩ := PairsAt.cell (l := R1) HK23.out.is.2.1 hi1
              obtain ⟨q2, s2, h2', j2, e2, e3⟩ := PairsAt.cell (l := R2) HK23.out.is.1 hi2
              have hr := HRR.out.1 i hlt
              have hb' := HRR.out.2 i hlt
              rw [show R1.getD i (0, 0) = R1[i] from by simp [List.getD, hi1]] at hr hb'
              rw [show R2.getD i (0, 0) = R2[i] from by simp [List.getD, hi2]] at hr
              generalize R1[i] = r1 at *
              generalize R2[i] = r2 at *
              subst hr
              obtain ⟨r10, r11⟩ := r1
              simp only at hb' e0 e1
              have hm1 := HMB.out r10 (by omega)
              have hm2 := HMB.out r11 (by omega)
              obtain ⟨x0, hx0⟩ : ∃ a, K * r10 = a := ⟨_, rfl⟩
              obtain ⟨x1, hx1⟩ : ∃ a, K * r11 = a := ⟨_, rfl⟩
              unfold scaR at e2 e3
              simp only at e2 e3
              rw [hx0] at hm1 e2
              rw [hx1] at hm2 e3
              have hxb : 0 ≤ x0 ∧ x0 ≤ 1050 := by omega
              have hxb1 : 0 ≤ x1 ∧ x1 ≤ 1050 := by omega
              cases h1
              cases h2'
              clear hm1 hm2 hi1 hi2
              go_wp2_with fail
              refine wp_region_rg 19 [] none [(18, Spec.val (rv (x0, x1)))] (by as_aux_lemma => kernel_rfl) (by as_aux_lemma => kernel_rfl) ?_
              simp only [List.take_succ_cons, List.take_zero, List.drop_succ_cons, List.drop_zero]
              repeat (first | (refine tree_det (by rfl) _ (by rfl) (fun W hW => by go_simp; (try simp (disch := omega) only [IntWalk.i64_in]); try rfl) ?_; simp only [Act.put, List.setIfInBounds_toArray, List.set_cons_succ, List.set_cons_zero]) | (refine tree_skip (by rfl) (by rfl) ?_; simp only [Act.put, List.setIfInBounds_toArray, List.set_cons_succ, List.set_cons_zero]))
              refine tree_val _ (by rfl) (by rfl) 62 #[iv x0, iv x1] (fun W hW => by go_simp; try rfl) (fun W hE hF => by exact between_any x0 x1 W) ?_
              simp only [Act.put, List.setIfInBounds_toArray, List.set_cons_succ, List.set_cons_zero]
              repeat (first | (refine tree_det (by rfl) _ (by rfl) (fun W hW => by go_simp; (try simp (disch := omega) only [IntWalk.i64_in]); try rfl) ?_; simp only [Act.put, List.setIfInBounds_toArray, List.set_cons_succ, List.set_cons_zero]) | (refine tree_skip (by rfl) (by rfl) ?_; simp only [Act.put, List.setIfInBounds_toArray, List.set_cons_succ, List.set_cons_zero]))
              intro X hE hF
              have HXX := Lib.hid (bgo HB23.out (Ext.below (show Ext [] W23 X from hE)))
              clear hE hF e0 e1 e2 e3
              go_wp2_with fail
              go_roundw
              case rel => exact ⟨i + 1, by omega, by go_num, HXX.out⟩
              case measure => simp [intOf]; omega
            · have hnl : ¬ (i : Int) < n := by omega
              go_wp2_with fail
              refine (awake_any _).mono ?_
              rintro e W24 ⟨rfl, hb⟩
              have HB24 := Lib.hid (bgo HK23.out.below hb)
              clear hb
              go_wp2_with fail
              go_returns
              exact ⟨by simp, HB24.out⟩
      case true =>
        rw [if_pos rfl]
        have hsf := HSH.out rfl
        go_wp2_with fail
        refine (HBT.out W7).mono ?_
        rintro e W8 ⟨v8, rfl, hv8, hb⟩
        obtain ⟨uo8, uc8, rfl⟩ := hv8.open
        have HV8 := Lib.hid hv8
        clear hv8
        have HK8 := Lib.hid (HK7.out.next hb)
        clear hb
        (try clear c0 f0)
        obtain ⟨c0, f0, l0⟩ := cells_of_block HK8.out.blk
        go_wp2_with fail
        refine (Shorter_any (bitsL m) L (.slice uo8 (bitsL m).length uc8) (.slice uo3 L.length uc3) W8 HV8.out HK8.out.is.1).mono ?_
        rw [hsf]
        rintro e W9 ⟨rfl, hb⟩
        have HK9 := Lib.hid (HK8.out.next hb)
        clear hb
        (try clear c0 f0)
        obtain ⟨c0, f0, l0⟩ := cells_of_block HK9.out.blk
        clear hsf
        have hrt := HRT.out
        obtain ⟨K, hK⟩ : ∃ K, r + 1 = K := ⟨_, rfl⟩
        have hK3 : 1 ≤ K ∧ K ≤ 3 := by omega
        have HKK := Lib.hid hK3
        have hbx := HM.out.2.1.box
        have hra := HM.out.2.1.rate
        have mulb : ∀ x : Int, 0 ≤ x → 0 ≤ K * x ∧ K * x ≤ 3 * x := fun x hx => ⟨Int.mul_nonneg (by omega) hx, Int.mul_le_mul_of_nonneg_right hK3.2 hx⟩
        have HMB := Lib.hid mulb
        have m0 := mulb l.rate (by omega)
        have m1 := mulb l.box.1 (by omega)
        have m2 := mulb l.box.2 (by omega)
        obtain ⟨kr, hkr⟩ : ∃ x, K * l.rate = x := ⟨_, rfl⟩
        obtain ⟨k0, hk0⟩ : ∃ x, K * l.box.1 = x := ⟨_, rfl⟩
        obtain ⟨k1, hk1⟩ : ∃ x, K * l.box.2 = x := ⟨_, rfl⟩
        rw [hkr] at m0
        rw [hk0] at m1
        rw [hk1] at m2
        have hkrb : 0 ≤ kr ∧ kr ≤ 150 := by omega
        have hk0b : 0 ≤ k0 ∧ k0 ≤ 6000 := by omega
        have hk1b : 0 ≤ k1 ∧ k1 ≤ 6000 := by omega
        have HKR := Lib.hid (And.intro hkr (And.intro hk0 hk1))
        clear mulb m0 m1 m2 hbx hra
        go_upto_region 20 with (fail)
        refine gworld fun W10 hW10 => ?_
        have hx : W10.heap[W9.heap.size]? = some (.cells (lcells l (.slice ot l.field.tallies.length ct) (.slice on l.notes.length cn)) 30 (0, 0)) := by rw [hW10]; exact heap_new0 _ _
        have hb : Below W9.heap.size W9 W10 := by rw [hW10]; exact bgoAlloc (Below.refl _ _) _
        obtain ⟨b1, hb1⟩ : ∃ b1, W9.heap.size = b1 := ⟨_, rfl⟩
        have hwb1 : w.heap.size < b1 := by omega
        have hne1 : w.heap.size ≠ b1 := by omega
        have hne2 : b1 ≠ w.heap.size := by omega
        have HK10 := Lib.hid ((HK9.out.next hb).more hx (last_block hx))
        have HB10 := Lib.hid hb
        have hs10 : b1 < W10.heap.size := by have := (cells_of_block hx).2.2; omega
        rw [hb1] at HK10 ⊢
        clear hx hb hW10 c0 f0
        obtain ⟨c0, f0, l0x⟩ := cells_of_block HK10.out.blk.2
        obtain ⟨c1, f1, l1x⟩ := cells_of_block HK10.out.blk.1
        refine wp_region_rg 17 [b1] (some 16) [(16, ⟨fun _ v => v = undef, fun _ _ Wx => Wx.heap[b1]? = some (.cells (lcells ⟨l.field, kr, l.box, l.notes⟩ (.slice ot l.field.tallies.length ct) (.slice on l.notes.length cn)) 30 (0, 0))⟩)] (by as_aux_lemma => kernel_rfl) (by as_aux_lemma => kernel_rfl) ?_
        simp only [List.take_succ_cons, List.take_zero, List.drop_succ_cons, List.drop_zero]
        repeat (first | (refine tree_det (by rfl) _ (by rfl) (fun W hW => by go_simp; (try simp (disch := omega) only [IntWalk.i64_in]); try rfl) ?_; simp only [Act.put, List.setIfInBounds_toArray, List.set_cons_succ, List.set_cons_zero]) | (refine tree_skip (by rfl) (by rfl) ?_; simp only [Act.put, List.setIfInBounds_toArray, List.set_cons_succ, List.set_cons_zero]))
        refine tree_some _ (by rfl) (by rfl) (by exact ⟨_, rfl⟩) (fun W hE hF => ?_) (fun v Wa Wb ho hE => ?_) (fun v hv => ?_)
        · have hE' : Ext [] W10 W := hE
          have hbW := (hE'.block _ l1x (by simp)).trans HK10.out.blk.1
          obtain ⟨hcw, hfw, hsw⟩ := cells_of_block hbW
          refine does_skip (W' := W.setCell ⟨b1, 5, none⟩ (iv kr)) (by go_simp; try rfl) ⟨rfl, set_block hbW _, ext_set _ ⟨b1, 5, none⟩ _⟩
        · have hE' : Ext [] Wa Wb := hE
          exact (hE'.block _ (Array.getElem?_eq_some_iff.1 ho).1 (by simp)).trans ho
        obtain rfl : v = _ := hv
        simp only [Act.put]
        intro Wc hE hF
        have hE' : Ext [b1] W10 Wc := hE
        have HRW := Lib.hid (show Wc.heap[b1]? = some (.cells (lcells ⟨l.field, kr, l.box, l.notes⟩ (.slice ot l.field.tallies.length ct) (.slice on l.notes.length cn)) 30 (0, 0)) from hF _ (List.Mem.head _))
        have hlc := (hE'.block _ l0x (by simpa using hne1)).trans HK10.out.blk.2
        have HLC := Lib.hid hlc
        have HBc := Lib.hid (below_of_ext HB10.out hE' (by omega))
        clear hE hF hE' c0 f0 c1 f1
        obtain ⟨c0, f0, l0c⟩ := cells_of_block hlc
        obtain ⟨c1, f1, l1c⟩ := cells_of_block HRW.out
        clear hlc
        go_upto_region 21 with (fail)
        refine gworld fun W11 hW11 => ?_
        have hx11 : W11.heap[b1]? = some (.cells (lcells ⟨l.field, kr, (k0, k1), l.notes⟩ (.slice ot l.field.tallies.length ct) (.slice on l.notes.length cn)) 30 (0, 0)) := by rw [hW11]; exact set_block (set_block HRW.out _) _
        have hl11 : W11.heap[w.heap.size]? = some (.cells (lcells l (.slice ot l.field.tallies.length ct) (.slice on l.notes.length cn)) 30 (0, 0)) := by rw [hW11]; exact (Below.heap_setCell _ _ _ _ hne1).trans ((Below.heap_setCell _ _ _ _ hne1).trans HLC.out)
        have hb11 : Below W9.heap.size W9 W11 := by rw [hW11]; exact bgoSet (bgoSet HBc.out (by show W9.heap.size ≤ b1; omega) _) (by show W9.heap.size ≤ b1; omega) _
        have H11 := Lib.hid (And.intro hx11 (And.intro hl11 hb11))
        have HSR := Lib.hid (show SlAt 3 W11 (.slice on l.notes.length cn) l.notes.length (tripleCells l.notes) from HA.out.2.below (bgo HK9.out.below hb11) (Nat.le_refl _))
        clear hW11 c0 f0 c1 f1 l0c l1c l0x l1x
        obtain ⟨c0, f0, l0c⟩ := cells_of_block hl11
        obtain ⟨c1, f1, l1c⟩ := cells_of_block hx11
        clear hx11 hl11 hb11
        go_wp2_with (at_builtin; go_loud (refine wpList_append_at rfl _ _ tNotes9L rfl W11.heap.size (.slice (some ⟨W11.heap.size, 0, none⟩) 0 0) 0 [] rfl ⟨by simp, .inr ⟨_, 0, #[], rfl, Nat.le_refl _, heap_new0 _ _, Nat.le_refl _, Nat.zero_le _, by simp, by simp⟩⟩ (.slice on l.notes.length cn) l.notes.length (tripleCells l.notes) rfl (HSR.out.alloc _) (one_triples _) (by omega) (by omega) (by simp) ?_))
        intro v' W12 hown12 hgr12 _
        (try rw [Nat.zero_add] at hown12)
        (try rw [List.nil_append] at hown12)
        obtain ⟨o3, c3, rfl⟩ := owns_slice hown12
        have hB12 : Below W11.heap.size W11 W12 := Below.grown (bgoAlloc (Below.refl _ _) _) hgr12 (by simp) (fun g e => by simp [Value.ownBlock] at e; omega)
        have hx12 := (hB12.block b1 l1c).trans H11.out.1
        have hl12 := (hB12.block w.heap.size l0c).trans H11.out.2.1
        have H12 := Lib.hid (And.intro hown12 (And.intro hB12 (And.intro hx12 hl12)))
        clear hown12 hgr12 hB12 c0 f0 c1 f1
        obtain ⟨c0, f0, l0d⟩ := cells_of_block hl12
        obtain ⟨c1, f1, l1d⟩ := cells_of_block hx12
        clear hx12 hl12
        go_upto_region 22 with (fail)
        refine gworld fun W13 hW13 => ?_
        have hx13 : W13.heap[b1]? = some (.cells (lcells ⟨l.field, kr, (k0, k1), l.notes⟩ (.slice ot l.field.tallies.length ct) (.slice o3 l.notes.length c3)) 30 (0, 0)) := by rw [hW13]; exact set_block H12.out.2.2.1 _
        have hl13 : W13.heap[w.heap.size]? = some (.cells (lcells l (.slice ot l.field.tallies.length ct) (.slice on l.notes.length cn)) 30 (0, 0)) := by rw [hW13]; exact (Below.heap_setCell _ _ _ _ hne1).trans H12.out.2.2.2
        have hb13 : Below W9.heap.size W9 W13 := by rw [hW13]; exact bgoSet (bgo H11.out.2.2 H12.out.2.1) (by show W9.heap.size ≤ b1; omega) _
        have ho13 : W13.ownsRow W11.heap.size 77 3 (.slice o3 l.notes.length c3) l.notes.length (tripleCells l.notes) := by
          rw [hW13]
          exact owns_keep H12.out.1 fun g hg => Below.heap_setCell _ _ _ _ (by have := (owns_ge H12.out.1 g hg).1; show g ≠ b1; omega)
        have H13 := Lib.hid (And.intro ho13 (And.intro hx13 (And.intro hl13 hb13)))
        clear hW13 hx13 hl13 hb13 ho13 c0 f0 c1 f1 l0d l1d
        go_wp2_with fail
        go_loopw [18] (fun u wr => ∃ i : Nat, i ≤ l.notes.length ∧ u = .int .i64 i ∧ wr.ownsRow W11.heap.size 77 3 (.slice o3 l.notes.length c3) l.notes.length (tripleCells (scaTo K l.notes i)) ∧ wr.heap[b1]? = some (.cells (lcells ⟨l.field, kr, (k0, k1), l.notes⟩ (.slice ot l.field.tallies.length ct) (.slice o3 l.notes.length c3)) 30 (0, 0)) ∧ wr.heap[w.heap.size]? = some (.cells (lcells l (.slice ot l.field.tallies.length ct) (.slice on l.notes.length cn)) 30 (0, 0)) ∧ Below W9.heap.size W9 wr) (fun u _ => l.notes.length - (intOf u).toNat)
        case atStart => exact ⟨0, Nat.zero_le _, rfl, by rw [scaTo_zero]; exact H13.out.1, H13.out.2.1, H13.out.2.2.1, H13.out.2.2.2⟩
        case round =>
          obtain ⟨i, hi, rfl, how, hbx, hbl, hB⟩ := hrel
          have hb1s := (cells_of_block H11.out.1).2.2
          by_cases hlt : i < l.notes.length
          case pos =>
            have hltI : (i : Int) < l.notes.length := by omega
            have hnt := HA.out.2.below (bgo HK9.out.below hB) (Nat.le_refl _)
            obtain ⟨b9, f9, hv9, hg9, d0, d1, d2⟩ := TriplesAt.cell hnt hlt
            obtain ⟨_, ⟨_, h2⟩ | ⟨g, cap, cur, h2, hbg, hgb, hnc, hcm, hcs, htk⟩⟩ := id how
            · omega
            cases h2
            have hgW : W11.heap.size ≤ g := hbg
            have hgb1 : ¬ g = b1 := by omega
            have hgb2 : ¬ b1 = g := by omega
            have hgw : ¬ w.heap.size = g := by omega
            obtain ⟨_, f8, hv8', hg8, e0, e1, e2⟩ := TriplesAt.cell (l := scaTo K l.notes i) (SlAt.of_owns how) (k := i) (by rw [scaTo_len]; exact hlt)
            cases hv8'
            rw [Nat.zero_add] at e0 e1 e2
            have lg := (cells_of_block hgb).2.2
            have hnb := HM.out.2.1.notes _ (List.getElem_mem hlt)
            have hsg := scaTo_get K hlt
            have hss := scaTo_succ K hlt
            generalize l.notes[i] = y at *
            obtain ⟨y0, y1, y2⟩ := y
            simp only at d0 d1 d2 hnb
            have hm1 := HMB.out y1 (by omega)
            have hm2 := HMB.out y2 (by omega)
            obtain ⟨a, ha⟩ : ∃ a, K * y1 = a := ⟨_, rfl⟩
            obtain ⟨bb, hbb⟩ : ∃ a, K * y2 = a := ⟨_, rfl⟩
            rw [ha] at hm1
            rw [hbb] at hm2
            have hab : 0 ≤ a ∧ a ≤ 6000 := by omega
            have hbbb : 0 ≤ bb ∧ bb ≤ 6000 := by omega
            have hss' : (scaTo K l.notes i).set i (y0, a, bb) = scaTo K l.notes (i + 1) := by rw [← hss, ← ha, ← hbb]; rfl
            have hts := triple_setL (scaTo K l.notes i) i y0 y1 y2 a bb hsg
            rw [hss'] at hts
            obtain ⟨c0, f0, l0e⟩ := cells_of_block hbl
            obtain ⟨c1, f1, l1e⟩ := cells_of_block hbx
            have HG := Lib.hid (And.intro how (And.intro hgb (And.intro hnc (And.intro hcm (And.intro hcs (And.intro htk hts))))))
            have HBB := Lib.hid (And.intro hbx (And.intro hbl hB))
            have HEE := Lib.hid (And.intro e1 e2)
            cases hv9
            clear how hgb hnc hcm hcs htk hts hbx hbl hB hnt hnb hsg hss hss' hm1 hm2 e0 e1 e2
            go_wp2_with fail
            refine wp_region_rg 24 [] none [] (by as_aux_lemma => kernel_rfl) (by as_aux_lemma => kernel_rfl) ?_
            simp only [List.take_succ_cons, List.take_zero, List.drop_succ_cons, List.drop_zero]
            repeat (first | (refine tree_det (by rfl) _ (by rfl) (fun W hW => by go_simp; (try simp (disch := omega) only [IntWalk.i64_in]); try rfl) ?_; simp only [Act.put, List.setIfInBounds_toArray, List.set_cons_succ, List.set_cons_zero]) | (refine tree_skip (by rfl) (by rfl) ?_; simp only [Act.put, List.setIfInBounds_toArray, List.set_cons_succ, List.set_cons_zero]))
            intro X hE hF
            have hE' : Ext [] wr X := hE
            have hgX := (hE'.block g lg (by simp)).trans HG.out.2.1
            have e1 := (hE'.cell g _ lg (by simp)).trans HEE.out.1
            have e2 := (hE'.cell g _ lg (by simp)).trans HEE.out.2
            have HX := Lib.hid (And.intro hgX hE')
            obtain ⟨_, fg, lgX⟩ := cells_of_block hgX
            clear hE hF hE' hgX c0 f0 c1 f1 d0 d1 d2
            go_wp2_with fail
            obtain ⟨Z, hZ⟩ : ∃ Z, (X.setCell ⟨g, i * 3 + 1, none⟩ (iv a)).setCell ⟨g, i * 3 + 1 + 1, none⟩ (iv bb) = Z := ⟨_, rfl⟩
            have hgZ : Z.heap[g]? = some (.cells ((cur.setIfInBounds (i * 3 + 1) (iv a)).setIfInBounds (i * 3 + 1 + 1) (iv bb)) 77 (0, 0)) := by
              rw [← hZ]
              exact set_block (set_block HX.out.1 _) _
            have hown : Z.ownsRow W11.heap.size 77 3 (.slice (some ⟨g, 0, none⟩) l.notes.length c3) l.notes.length (tripleCells (scaTo K l.notes (i + 1))) := by
              refine ⟨?_, .inr ⟨g, c3, _, rfl, hgW, hgZ, HG.out.2.2.1, HG.out.2.2.2.1, by simpa using HG.out.2.2.2.2.1, ?_⟩⟩
              · have := HG.out.1.1
                rw [← HG.out.2.2.2.2.2.2, List.length_set, List.length_set]
                exact this
              · rw [← HG.out.2.2.2.2.2.2, Array.toList_setIfInBounds, Array.toList_setIfInBounds, List.take_set, List.take_set, HG.out.2.2.2.2.2.1]
            have hbxZ : Z.heap[b1]? = some (.cells (lcells ⟨l.field, kr, (k0, k1), l.notes⟩ (.slice ot l.field.tallies.length ct) (.slice (some ⟨g, 0, none⟩) l.notes.length c3)) 30 (0, 0)) := by
              rw [← hZ]
              exact (Below.heap_setCell _ _ _ _ (show b1 ≠ g by omega)).trans ((Below.heap_setCell _ _ _ _ (show b1 ≠ g by omega)).trans ((HX.out.2.block _ l1e (by simp)).trans HBB.out.1))
            have hblZ : Z.heap[w.heap.size]? = some (.cells (lcells l (.slice ot l.field.tallies.length ct) (.slice (some ⟨b9, f9, none⟩) l.notes.length cn)) 30 (0, 0)) := by
              rw [← hZ]
              exact (Below.heap_setCell _ _ _ _ (show w.heap.size ≠ g by omega)).trans ((Below.heap_setCell _ _ _ _ (show w.heap.size ≠ g by omega)).trans ((HX.out.2.block _ l0e (by simp)).trans HBB.out.2.1))
            have hBZ : Below W9.heap.size W9 Z := by
              rw [← hZ]
              exact bgoSet (bgoSet (bgo HBB.out.2.2 HX.out.2.below) (by show W9.heap.size ≤ g; omega) _) (by show W9.heap.size ≤ g; omega) _
            have HZ := Lib.hid (And.intro hown (And.intro hbxZ (And.intro hblZ hBZ)))
            clear hown hbxZ hblZ hBZ hgZ e1 e2 fg
            go_roundw
            case rel =>
              (try rw [hZ])
              exact ⟨i + 1, by omega, by go_num, HZ.out.1, HZ.out.2.1, HZ.out.2.2.1, HZ.out.2.2.2⟩
            case measure => simp [intOf]; omega
          obtain rfl : i = l.notes.length := by omega
          rw [scaTo_all] at how
          have hT := SlAt.of_owns how
          obtain ⟨Y, hY⟩ : ∃ Y, scaL K l = Y := ⟨_, rfl⟩
          have hYf : Y.field = l.field := by rw [← hY]; rfl
          have hYn : Y.notes = l.notes.map (scaN K) := by rw [← hY]; rfl
          have hYl : Y.notes.length = l.notes.length := by rw [hYn, List.length_map]
          have hYc : lcells ⟨l.field, kr, (k0, k1), l.notes⟩ (.slice ot l.field.tallies.length ct) (.slice o3 l.notes.length c3) = lcells Y (.slice ot l.field.tallies.length ct) (.slice o3 l.notes.length c3) := by rw [← hY, ← HKR.out.1, ← HKR.out.2.1, ← HKR.out.2.2]; rfl
          rw [hYc] at hbx
          have hTY : TriplesAt wr (.slice o3 l.notes.length c3) Y.notes := by unfold TriplesAt; rw [hYl, hYn]; exact hT
          have HAY := Lib.hid (show TalliesAt w (.slice ot l.field.tallies.length ct) Y.field.tallies from by rw [hYf]; exact HA.out.1)
          have HK14 := Lib.hid (((HK9.out.next hB).more hbx (last_block hbx)).add hTY (last_at hTY))
          have hkp : 0 < K := by omega
          have HLY := Lib.hid (show leaveW Y = L from by rw [← hY, sca_leave hkp, HLV.out])
          have hask : faultW Y = 0 → askedErr Y true = askedErr l true := fun h => by rw [← hY] at h ⊢; exact sca_asked hkp HM.out.1 h
          have hern : ∀ i, askedErr l true = 0 → askedErr Y true = 0 → i < l.field.weeders.toNat → (bndL partE Y (duesT Y)).getD i (0, 0) = scaR K ((bndL partE l (duesT l)).getD i (0, 0)) := fun i h1 h2 h3 => by rw [← hY] at h2 ⊢; exact sca_earned hkp h1 h2 h3
          have HSC := Lib.hid (And.intro hask hern)
          have hYt : Y.field.tallies.length ≤ 5 := by rw [hYf]; exact HM.out.2.2.1
          have hYl5 : Y.notes.length ≤ 5 := by omega
          have hYw : Y.field.weeders = l.field.weeders := by rw [hYf]
          have HYS := Lib.hid (And.intro hYt (And.intro hYl5 hYw))
          obtain ⟨q, hq⟩ : ∃ q, faultW Y = q := ⟨_, rfl⟩
          have HQ := Lib.hid hq
          have hnlt : ¬ (l.notes.length : Int) < l.notes.length := by omega
          generalize wr = W14 at *
          clear how hT hY hYf hYn hYl hYc hTY hask hern hYt hYl5 hYw hq hbx hbl hB
          obtain ⟨c0, f0, l0f⟩ := cells_of_block HK14.out.blk.2
          obtain ⟨c1, f1, l1f⟩ := cells_of_block HK14.out.blk.1
          go_wp2_with fail
          refine (zfault_any Y (.slice ot l.field.tallies.length ct) (.slice o3 l.notes.length c3) W14 (HAY.out.below HK14.out.below (Nat.le_refl _)) HK14.out.is.1).mono ?_
          rintro e W15 ⟨rfl, hb⟩
          rw [HQ.out]
          have HK15 := Lib.hid (HK14.out.next hb)
          clear hb
          (try clear c0 f0)
          (try clear c1 f1)
          obtain ⟨c0, f0, l0⟩ := cells_of_block HK15.out.blk.2
          obtain ⟨c1, f1, l1⟩ := cells_of_block HK15.out.blk.1
          by_cases hq0 : q = 0
          case neg =>
            have hqb : (q != 0) = true := by simpa using hq0
            go_wp2_with fail
            refine (awake_any _).mono ?_
            rintro e W16 ⟨rfl, hb⟩
            have HB16 := Lib.hid (bgo HK15.out.below hb)
            clear hb
            go_wp2_with fail
            go_returns
            exact ⟨by simp, HB16.out⟩
          subst hq0
          have HAE := Lib.hid (HSC.out.1 HQ.out)
          go_wp2_with fail
          refine (Ledger_any (Y) ((.slice ot l.field.tallies.length ct)) ((.slice o3 l.notes.length c3)) W15 (HAY.out.below HK15.out.below (Nat.le_refl _)) (HK15.out.is.1) (by have := HYS.out.1; omega) (by have := HYS.out.2.1; omega)).mono ?_
          rintro e W16 ⟨a16, b16, rfl, ht16, hn16, hb⟩
          have HL16 := Lib.hid (And.intro ht16 hn16)
          clear ht16 hn16
          have HK16 := Lib.hid (HK15.out.next hb)
          clear hb
          (try clear c0 f0)
          (try clear c1 f1)
          obtain ⟨c0, f0, l0⟩ := cells_of_block HK16.out.blk.2
          obtain ⟨c1, f1, l1⟩ := cells_of_block HK16.out.blk.1
          go_wp2_with fail
          refine (Leave_any (Y) a16 b16 W16 HL16.out.1 HL16.out.2).mono ?_
          rintro e W17 ⟨hb, ⟨hne, _⟩ | ⟨_, u17, rfl, hu17⟩⟩
          · exact absurd (HQ.out) hne
          rw [HLY.out] at hu17
          obtain ⟨uo17, uc17, rfl⟩ := hu17.open
          have HU17 := Lib.hid hu17
          clear hu17
          have HK17 := Lib.hid (HK16.out.next hb)
          clear hb
          (try clear c0 f0)
          (try clear c1 f1)
          obtain ⟨c0, f0, l0⟩ := cells_of_block HK17.out.blk.2
          obtain ⟨c1, f1, l1⟩ := cells_of_block HK17.out.blk.1
          have HK17 := Lib.hid (HK17.out.add (show IntsAt W17 (.slice uo17 (L).length uc17) (L) from HU17.out) (last_at HU17.out))
          go_wp2_with fail
          refine (Ledger_any (l) (.slice ot l.field.tallies.length ct) (.slice on l.notes.length cn) W17 (HA.out.1.below HK17.out.below (Nat.le_refl _)) (HA.out.2.below HK17.out.below (Nat.le_refl _)) (by have := HM.out.2.2.1; omega) (by have := HM.out.2.2.2.1; omega)).mono ?_
          rintro e W18 ⟨a18, b18, rfl, ht18, hn18, hb⟩
          have HL18 := Lib.hid (And.intro ht18 hn18)
          clear ht18 hn18
          have HK18 := Lib.hid (HK17.out.next hb)
          clear hb
          (try clear c0 f0)
          (try clear c1 f1)
          obtain ⟨c0, f0, l0⟩ := cells_of_block HK18.out.blk.2
          obtain ⟨c1, f1, l1⟩ := cells_of_block HK18.out.blk.1
          go_wp2_with fail
          obtain hao | hao := asked_err HM.out.1
          case inr =>
            have HA1 := Lib.hid hao
            have HAY1 := Lib.hid (HAE.out.trans hao)
            clear hao
            refine (Earned_any l a18 b18 W18 HL18.out.1 HL18.out.2).mono ?_
            rintro e W19 ⟨hb, ⟨_, rfl⟩ | ⟨h0, _⟩⟩
            case inr => exact absurd ((HA1.out).symm.trans h0) (by decide)
            rw [HA1.out]
            have HK19 := Lib.hid (HK18.out.next hb)
            clear hb
            (try clear c0 f0)
            (try clear c1 f1)
            obtain ⟨c0, f0, l0⟩ := cells_of_block HK19.out.blk.2
            obtain ⟨c1, f1, l1⟩ := cells_of_block HK19.out.blk.1
            go_wp2_with fail
            refine (Ledger_any (Y) ((.slice ot l.field.tallies.length ct)) ((.slice o3 l.notes.length c3)) W19 (HAY.out.below HK19.out.below (Nat.le_refl _)) (HK19.out.is.2.1) (by have := HYS.out.1; omega) (by have := HYS.out.2.1; omega)).mono ?_
            rintro e W20 ⟨a20, b20, rfl, ht20, hn20, hb⟩
            have HL20 := Lib.hid (And.intro ht20 hn20)
            clear ht20 hn20
            have HK20 := Lib.hid (HK19.out.next hb)
            clear hb
            (try clear c0 f0)
            (try clear c1 f1)
            obtain ⟨c0, f0, l0⟩ := cells_of_block HK20.out.blk.2
            obtain ⟨c1, f1, l1⟩ := cells_of_block HK20.out.blk.1
            go_wp2_with fail
            refine (Earned_any Y a20 b20 W20 HL20.out.1 HL20.out.2).mono ?_
            rintro e W21 ⟨hb, ⟨_, rfl⟩ | ⟨h0, _⟩⟩
            case inr => exact absurd (HAY1.out.symm.trans h0) (by decide)
            rw [HAY1.out]
            have HK21 := Lib.hid (HK20.out.next hb)
            clear hb
            (try clear c0 f0)
            (try clear c1 f1)
            obtain ⟨c0, f0, l0⟩ := cells_of_block HK21.out.blk.2
            obtain ⟨c1, f1, l1⟩ := cells_of_block HK21.out.blk.1
            go_wp2_with fail
            refine (same_any L L (.slice uo3 L.length uc3) (.slice uo17 L.length uc17) W21 HK21.out.is.2.2.1 HK21.out.is.1).mono ?_
            rw [beq_self_eq_true]
            rintro e W22 ⟨rfl, hb⟩
            have HK22 := Lib.hid (HK21.out.next hb)
            clear hb
            (try clear c0 f0)
            (try clear c1 f1)
            obtain ⟨c0, f0, l0⟩ := cells_of_block HK22.out.blk.2
            obtain ⟨c1, f1, l1⟩ := cells_of_block HK22.out.blk.1
            go_wp2_with fail
            clear c0 f0 c1 f1
            go_loopw [25] (fun u wr => u = iv 0 ∧ Below W22.heap.size W22 wr) (fun _ _ => 0)
            case atStart => exact ⟨rfl, Below.refl _ _⟩
            case round =>
              obtain ⟨rfl, hb⟩ := hrel
              generalize wr = W23 at *
              have HK23 := Lib.hid (HK22.out.next hb)
              clear hb
              (try clear c0 f0)
              (try clear c1 f1)
              obtain ⟨c0, f0, l0⟩ := cells_of_block HK23.out.blk.2
              obtain ⟨c1, f1, l1⟩ := cells_of_block HK23.out.blk.1
              go_wp2_with fail
              refine (awake_any _).mono ?_
              rintro e W24 ⟨rfl, hb⟩
              have HB24 := Lib.hid (bgo HK23.out.below hb)
              clear hb
              go_wp2_with fail
              go_returns
              exact ⟨by simp, HB24.out⟩
          have HA1 := Lib.hid hao
          have HAY1 := Lib.hid (HAE.out.trans hao)
          obtain ⟨hS, hsm⟩ := asked_ok hao
          obtain ⟨hSY, hsmY⟩ := asked_ok HAY1.out
          obtain ⟨n, hnw⟩ : ∃ n : Nat, l.field.weeders = n := ⟨l.field.weeders.toNat, by have := HM.out.2.2.2.2.1; omega⟩
          have hwt : l.field.weeders.toNat = n := by omega
          have hn3 : n ≤ 3 := by have := HM.out.2.2.2.2.2; omega
          have t1 : (bndL partE l (duesT l)).length = n := by rw [least_len hS hsm]; exact hwt
          have t2 : (bndL partE Y (duesT Y)).length = n := by rw [least_len hSY hsmY, HYS.out.2.2]; exact hwt
          have hrr := fun (i : Nat) (hi : i < n) => HSC.out.2 i HA1.out HAY1.out (by omega)
          have hrb : ∀ i, i < n → (0 ≤ ((bndL partE l (duesT l)).getD i (0, 0)).1 ∧ ((bndL partE l (duesT l)).getD i (0, 0)).1 ≤ 350) ∧ (0 ≤ ((bndL partE l (duesT l)).getD i (0, 0)).2 ∧ ((bndL partE l (duesT l)).getD i (0, 0)).2 ≤ 350) := fun i hi => by
            have hh := bnd_hull hsm partE (i := i) (by omega)
            obtain ⟨y1, ⟨d1, hd1, _, rfl⟩, g1⟩ := hh.low.1
            obtain ⟨y2, ⟨d2, hd2, _, rfl⟩, g2⟩ := hh.high.1
            rw [← g1, ← g2]
            exact ⟨duesT_bd hS hd1 i (by omega), duesT_bd hS hd2 i (by omega)⟩
          obtain ⟨R1, hR1⟩ : ∃ R, bndL partE l (duesT l) = R := ⟨_, rfl⟩
          obtain ⟨R2, hR2⟩ : ∃ R, bndL partE Y (duesT Y) = R := ⟨_, rfl⟩
          rw [hR1] at t1
          rw [hR2] at t2
          simp only [hR1, hR2] at hrr hrb
          have HR1 := Lib.hid (And.intro hR1 t1)
          have HR2 := Lib.hid (And.intro hR2 t2)
          have HRR := Lib.hid (And.intro hrr hrb)
          clear hao hS hsm hSY hsmY hnw hwt t1 t2 hR1 hR2 hrr hrb
          refine (Earned_any (l) a18 b18 W18 HL18.out.1 HL18.out.2).mono ?_
          rintro e W19 ⟨hb, ⟨hne, _⟩ | ⟨_, u19, rfl, hu19⟩⟩
          · exact absurd (HA1.out) hne
          rw [HR1.out.1] at hu19
          obtain ⟨uo19, uc19, rfl⟩ := hu19.open
          have hv19 : SlAt 2 W19 (.slice uo19 n uc19) n (pairCells R1) := by have := PairsAt.at_ hu19 (HR1.out.2); rw [HR1.out.2] at this; exact this
          rw [HR1.out.2]
          have HV19 := Lib.hid hv19
          clear hu19 hv19
          have HK19 := Lib.hid (HK18.out.next hb)
          clear hb
          (try clear c0 f0)
          (try clear c1 f1)
          obtain ⟨c0, f0, l0⟩ := cells_of_block HK19.out.blk.2
          obtain ⟨c1, f1, l1⟩ := cells_of_block HK19.out.blk.1
          have HK19 := Lib.hid (HK19.out.add HV19.out (last_at HV19.out))
          go_wp2_with fail
          refine (Ledger_any (Y) ((.slice ot l.field.tallies.length ct)) ((.slice o3 l.notes.length c3)) W19 (HAY.out.below HK19.out.below (Nat.le_refl _)) (HK19.out.is.2.2.1) (by have := HYS.out.1; omega) (by have := HYS.out.2.1; omega)).mono ?_
          rintro e W20 ⟨a20, b20, rfl, ht20, hn20, hb⟩
          have HL20 := Lib.hid (And.intro ht20 hn20)
          clear ht20 hn20
          have HK20 := Lib.hid (HK19.out.next hb)
          clear hb
          (try clear c0 f0)
          (try clear c1 f1)
          obtain ⟨c0, f0, l0⟩ := cells_of_block HK20.out.blk.2
          obtain ⟨c1, f1, l1⟩ := cells_of_block HK20.out.blk.1
          go_wp2_with fail
          refine (Earned_any (Y) a20 b20 W20 HL20.out.1 HL20.out.2).mono ?_
          rintro e W21 ⟨hb, ⟨hne, _⟩ | ⟨_, u21, rfl, hu21⟩⟩
          · exact absurd (HAY1.out) hne
          rw [HR2.out.1] at hu21
          obtain ⟨uo21, uc21, rfl⟩ := hu21.open
          have hv21 : SlAt 2 W21 (.slice uo21 n uc21) n (pairCells R2) := by have := PairsAt.at_ hu21 (HR2.out.2); rw [HR2.out.2] at this; exact this
          rw [HR2.out.2]
          have HV21 := Lib.hid hv21
          clear hu21 hv21
          have HK21 := Lib.hid (HK20.out.next hb)
          clear hb
          (try clear c0 f0)
          (try clear c1 f1)
          obtain ⟨c0, f0, l0⟩ := cells_of_block HK21.out.blk.2
          obtain ⟨c1, f1, l1⟩ := cells_of_block HK21.out.blk.1
          have HK21 := Lib.hid (HK21.out.add HV21.out (last_at HV21.out))
          go_wp2_with fail
          refine (same_any L L (.slice uo3 L.length uc3) (.slice uo17 L.length uc17) W21 HK21.out.is.2.2.2.2.1 HK21.out.is.2.2.1).mono ?_
          rw [beq_self_eq_true]
          rintro e W22 ⟨rfl, hb⟩
          have HK22 := Lib.hid (HK21.out.next hb)
          clear hb
          (try clear c0 f0)
          (try clear c1 f1)
          obtain ⟨c0, f0, l0⟩ := cells_of_block HK22.out.blk.2
          obtain ⟨c1, f1, l1⟩ := cells_of_block HK22.out.blk.1
          go_wp2_with fail
          clear c0 f0 c1 f1
          go_loopw [25] (fun u wr => ∃ i : Nat, i ≤ n ∧ u = .int .i64 i ∧ Below W22.heap.size W22 wr) (fun u _ => n - (intOf u).toNat)
          case atStart => exact ⟨0, Nat.zero_le _, rfl, Below.refl _ _⟩
          case round =>
            obtain ⟨i, hi, rfl, hb⟩ := hrel
            generalize wr = W23 at *
            have HB23 := Lib.hid hb
            have HK23 := Lib.hid (HK22.out.next hb)
            clear hb
            (try clear c0 f0)
            (try clear c1 f1)
            obtain ⟨c0, f0, l0⟩ := cells_of_block HK23.out.blk.2
            obtain ⟨c1, f1, l1⟩ := cells_of_block HK23.out.blk.1
            clear c0 f0 c1 f1
            by_cases hlt : i < n
            · have hltI : (i : Int) < n := by omega
              have hi1 : i < R1.length := by rw [HR1.out.2]; exact hlt
              have hi2 : i < R2.length := by rw [HR2.out.2]; exact hlt
              obtain ⟨q1, s1, h1, j1, e0, e1⟩ := PairsAt.cell (l := R1) HK23.out.is.2.1 hi1
              obtain ⟨q2, s2, h2', j2, e2, e3⟩ := PairsAt.cell (l := R2) HK23.out.is.1 hi2
              have hr := HRR.out.1 i hlt
              have hb' := HRR.out.2 i hlt
              rw [show R1.getD i (0, 0) = R1[i] from by simp [List.getD, hi1]] at hr hb'
              rw [show R2.getD i (0, 0) = R2[i] from by simp [List.getD, hi2]] at hr
              generalize R1[i] = r1 at *
              generalize R2[i] = r2 at *
              subst hr
              obtain ⟨r10, r11⟩ := r1
              simp only at hb' e0 e1
              have hm1 := HMB.out r10 (by omega)
              have hm2 := HMB.out r11 (by omega)
              obtain ⟨x0, hx0⟩ : ∃ a, K * r10 = a := ⟨_, rfl⟩
              obtain ⟨x1, hx1⟩ : ∃ a, K * r11 = a := ⟨_, rfl⟩
              unfold scaR at e2 e3
              simp only at e2 e3
              rw [hx0] at hm1 e2
              rw [hx1] at hm2 e3
              have hxb : 0 ≤ x0 ∧ x0 ≤ 1050 := by omega
              have hxb1 : 0 ≤ x1 ∧ x1 ≤ 1050 := by omega
              cases h1
              cases h2'
              clear hm1 hm2 hi1 hi2
              go_wp2_with fail
              refine wp_region_rg 19 [] none [(18, Spec.val (rv (x0, x1)))] (by as_aux_lemma => kernel_rfl) (by as_aux_lemma => kernel_rfl) ?_
              simp only [List.take_succ_cons, List.take_zero, List.drop_succ_cons, List.drop_zero]
              repeat (first | (refine tree_det (by rfl) _ (by rfl) (fun W hW => by go_simp; (try simp (disch := omega) only [IntWalk.i64_in]); try rfl) ?_; simp only [Act.put, List.setIfInBounds_toArray, List.set_cons_succ, List.set_cons_zero]) | (refine tree_skip (by rfl) (by rfl) ?_; simp only [Act.put, List.setIfInBounds_toArray, List.set_cons_succ, List.set_cons_zero]))
              refine tree_val _ (by rfl) (by rfl) 62 #[iv x0, iv x1] (fun W hW => by go_simp; try rfl) (fun W hE hF => by exact between_any x0 x1 W) ?_
              simp only [Act.put, List.setIfInBounds_toArray, List.set_cons_succ, List.set_cons_zero]
              repeat (first | (refine tree_det (by rfl) _ (by rfl) (fun W hW => by go_simp; (try simp (disch := omega) only [IntWalk.i64_in]); try rfl) ?_; simp only [Act.put, List.setIfInBounds_toArray, List.set_cons_succ, List.set_cons_zero]) | (refine tree_skip (by rfl) (by rfl) ?_; simp only [Act.put, List.setIfInBounds_toArray, List.set_cons_succ, List.set_cons_zero]))
              intro X hE hF
              have HXX := Lib.hid (bgo HB23.out (Ext.below (show Ext [] W23 X from hE)))
              clear hE hF e0 e1 e2 e3
              go_wp2_with fail
              go_roundw
              case rel => exact ⟨i + 1, by omega, by go_num, HXX.out⟩
              case measure => simp [intOf]; omega
            · have hnl : ¬ (i : Int) < n := by omega
              go_wp2_with fail
              refine (awake_any _).mono ?_
              rintro e W24 ⟨rfl, hb⟩
              have HB24 := Lib.hid (bgo HK23.out.below hb)
              clear hb
              go_wp2_with fail
              go_returns
              exact ⟨by simp, HB24.out⟩
end Go.Proofs.YtdjgikcnmokjkaaGreat

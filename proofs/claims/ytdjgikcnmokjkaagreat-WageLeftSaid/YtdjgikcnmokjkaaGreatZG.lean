/-
  The reference of chapter 9, penny by penny: fits, Has, Sums.
-/
import Derived.WalkKit
import Derived.WalkLawsBesides
import Derived.WalkSpells
import Derived.Outline
import Derived.Handy
import Derived.KernelRfl
import Derived.Lib.Hide
import Derived.BigRegion
import Derived.Deep.Cut
import Derived.Test.YtdjgikcnmokjkaaGreatVN
namespace Go.Proofs.YtdjgikcnmokjkaaGreat
open Go.RowKit Go.RG Go.SL Go.Shelf Cou Go.TB
set_option maxHeartbeats 400000
set_option maxRecDepth 10000

def boolCells (l : List Bool) : List Value := l.map Value.bool
theorem tBools : SliceT Tryz.prog 159 4 (.bool false) 1 1 := ⟨Tryz.underlying159, by kernel_rfl, rfl, by omega⟩
theorem make_bools (n : Nat) (hn : n ≤ 10000) (W : World) :
    (Instr.makeSlice 159 (iv n) (iv n)).run Tryz.prog W = .ok (.slice (some ⟨W.heap.size, 0, none⟩) n n) (W.alloc (.cells (boolCells (List.replicate n false)).toArray 4)) := by
  obtain ⟨i, hi, hz, hs, hby⟩ := info_parts tBools.info
  have := run_make (P := Tryz.prog) W 159 4 i (.bool false) tBools.und hi hz .i64 .i64 n n (by omega) (Int.le_refl _) (by rw [hby]; omega) (by omega)
  rw [this, hs]
  simp only [Int.toNat_natCast]
  congr 3
  apply Array.ext
  · simp [madeCells, boolCells]
  · intro j h1 h2
    simp [madeCells, boolCells, Value.cells]
    rw [Nat.mod_one]
    rfl
theorem cell_of_bools {w : World} {b : Nat} {l : List Bool} {t : TypeId} {fr : Nat × Nat} (h : w.heap[b]? = some (.cells (boolCells l).toArray t fr)) {k : Nat} (hk : k < l.length) : w.cell? ⟨b, k, none⟩ = some (.bool (l.getD k false)) := by
  simp [World.cell?, h, boolCells, hk, List.getD]
theorem set_bools {w : World} {b : Nat} {l : List Bool} {t : TypeId} {fr : Nat × Nat} (h : w.heap[b]? = some (.cells (boolCells l).toArray t fr)) (k : Nat) (x : Bool) : (w.setCell ⟨b, k, none⟩ (.bool x)).heap[b]? = some (.cells (boolCells (l.set k x)).toArray t fr) := by
  have := set_block (o := k) h (.bool x)
  rw [this]
  congr 2
  unfold boolCells
  rw [List.map_set, List.setIfInBounds_toArray]

set_option maxHeartbeats 4000000 in
theorem fits_any (l : LedgerD) (tv nv : Value) (m wd : Nat) (due p : Int) (w : World) (hn : TriplesAt w nv l.notes) (hm : (m : Int) ≤ 1000) (hl : l.notes.length ≤ 7) (_ : wd ≤ 1000) :
    Calls Tryz.prog 106 #[lv l tv nv, iv m, iv wd, iv due, iv p] w (PV (.bool (fitB l m wd due p)) w) := by
  obtain ⟨on, cn, rfl⟩ := hn.open
  have HX := Lib.hid hn
  clear hn
  have HIN := Lib.hid (fun (a b c : Int) (W : World) => rIn_any a b c W)
  go_enter Tryz.func106, Tryz.ntmps106
  go_wp2_with fail
  have hk0 := heap_new0 w (.cells (lcells l tv (.slice on l.notes.length cn)) 30)
  obtain ⟨w1, hw1⟩ : ∃ w1, w.alloc (.cells (lcells l tv (.slice on l.notes.length cn)) 30) = w1 := ⟨_, rfl⟩
  have hB1 : Below w.heap.size w w1 := by rw [← hw1]; exact bgoAlloc (Below.refl _ _) _
  rw [hw1] at hk0
  first | rw [hw1] | skip
  have hl0 := (cells_of_block hk0).2.2
  have H1 := Lib.hid (And.intro hB1 hk0)
  clear hw1 hB1 hk0
  go_loopw [11] (fun u wr => ∃ k : Nat, k ≤ l.notes.length ∧ u = .int .i64 k ∧ fitTo l m wd p k = true ∧ Below w1.heap.size w1 wr) (fun u _ => l.notes.length - (intOf u).toNat)
  case atStart => exact ⟨0, Nat.zero_le _, rfl, rfl, Below.refl _ _⟩
  case round =>
    obtain ⟨k, hk, rfl, hok, hB⟩ := hrel
    have hk0 := (hB.block _ hl0).trans H1.out.2
    obtain ⟨c0, f0, l0⟩ := cells_of_block hk0
    by_cases hlt : k < l.notes.length
    · obtain ⟨b, off, hv, hb1, d0, d1, d2⟩ := TriplesAt.cell (HX.out.below (bgo H1.out.1 hB) (Nat.le_refl _)) hlt
      have hsu := fitTo_succ l m wd p k
      have hbad := fun h => fitTo_bad (l := l) (m := m) (w := wd) (p := p) (due := due) hlt h
      have g1 : l.notes.getD k (0, 0, 0) = l.notes[k] := by simp [List.getD, hlt]
      rw [g1] at hsu hbad
      rw [hok, Bool.true_and] at hsu
      generalize l.notes[k] = x at *
      obtain ⟨x0, x1, x2⟩ := x
      simp only at d0 d1 d2 hsu hbad
      cases hv
      have hdI : (m : Int) / 2 ^ k = ((m / 2 ^ k : Nat) : Int) := by norm_cast
      have hbit := bit_zero m k
      have hdle : m / 2 ^ k ≤ m := Nat.div_le_self _ _
      generalize m / 2 ^ k = d at *
      have hd1 : (d : Int) ≤ 1000 := by omega
      have hltI : (k : Int) < l.notes.length := by omega
      have HX2 := Lib.hid (And.intro hsu (And.intro hbad hB))
      clear hsu hbad hB hk0 hok g1
      cases hb : m.testBit k
      · rw [hb] at hbit HX2
        by_cases hx0 : x0 = (wd : Int)
        · have hx0b : (x0 == (wd : Int)) = true := by simpa using hx0
          obtain ⟨ib, hib⟩ : ∃ ib, inB p x1 x2 = ib := ⟨_, rfl⟩
          have HI := Lib.hid (fun W => HIN.out p x1 x2 W)
          rw [hib] at HI
          have HIB := Lib.hid hib
          clear hib hb
          go_wp2_with fail
          refine (HI.out _).mono ?_
          rintro e W3 ⟨rfl, hb3⟩
          have HB3 := Lib.hid (bgo HX2.out.2.2 (bgo (show Below wr.heap.size wr _ from (by repeat (first | exact Below.refl _ _ | assumption | refine bgo ?_ (by assumption) | refine bgoAlloc ?_ _ | refine bgoDrew ?_ | refine bgoSet ?_ (by simp; omega) _))) hb3))
          clear hb3
          cases ib
          · have HV := Lib.hid (show fitB l m wd due p = false from HX2.out.2.1 (by rw [HIB.out, bne_eq_false_iff_eq.2 hx0]; rfl))
            go_wp2_with fail
            go_returns
            exact ⟨by rw [HV.out]; simp, bgo H1.out.1 HB3.out⟩
          · have HV := Lib.hid (show fitTo l m wd p (k + 1) = true from by rw [HX2.out.1, HIB.out]; simp)
            go_wp2_with fail
            go_roundw
            case rel => exact ⟨k + 1, by omega, by go_num, HV.out, HB3.out⟩
            case measure => simp [intOf]; omega
        · have hx0b : (x0 == (wd : Int)) = false := by rw [beq_eq_false_iff_ne]; exact hx0
          have HV := Lib.hid (show fitTo l m wd p (k + 1) = true from by rw [HX2.out.1, bne_iff_ne.2 hx0]; simp)
          clear hb
          go_wp2_with fail
          go_roundw
          case rel => exact ⟨k + 1, by omega, by go_num, HV.out, bgo HX2.out.2.2 (by repeat (first | exact Below.refl _ _ | assumption | refine bgo ?_ (by assumption) | refine bgoAlloc ?_ _ | refine bgoDrew ?_ | refine bgoSet ?_ (by simp; omega) _))⟩
          case measure => simp [intOf]; omega
      · rw [hb] at hbit HX2
        have HV := Lib.hid (show fitTo l m wd p (k + 1) = true from by rw [HX2.out.1]; simp)
        clear hb
        go_wp2_with fail
        go_roundw
        case rel => exact ⟨k + 1, by omega, by go_num, HV.out, bgo HX2.out.2.2 (by repeat (first | exact Below.refl _ _ | assumption | refine bgo ?_ (by assumption) | refine bgoAlloc ?_ _ | refine bgoDrew ?_ | refine bgoSet ?_ (by simp; omega) _))⟩
        case measure => simp [intOf]; omega
    · have hkn : k = l.notes.length := by omega
      have hnl : ¬ (k : Int) < l.notes.length := by omega
      have HV := Lib.hid (show fitB l m wd due p = inB p 0 due from by unfold fitB; rw [← hkn, hok, Bool.true_and])
      have HBR := Lib.hid (bgo H1.out.1 hB)
      clear hok hB hk0
      go_wp2_with fail
      refine (HIN.out p 0 due _).mono ?_
      rintro e W3 ⟨rfl, hb3⟩
      have HB3 := Lib.hid (bgo HBR.out hb3)
      clear hb3
      go_wp2_with fail
      go_returns
      exact ⟨by rw [HV.out]; simp, HB3.out⟩

set_option maxHeartbeats 4000000 in
theorem Has_any (l : LedgerD) (tv nv : Value) (cs : List Bool) (g : Nat) (more : Int) (w : World) (hg : w.heap[g]? = some (.cells (boolCells cs).toArray 4 (0, 0))) (hl : cs.length ≤ 5000) (hm : -10000 ≤ more ∧ more ≤ 10000) :
    Calls Tryz.prog 104 #[lv l tv nv, .slice (some ⟨g, 0, none⟩) cs.length cs.length, iv more] w (PV (.bool ((List.range cs.length).any fun (s : Nat) => cs.getD s false && inB ((s : Int) + more) l.box.1 l.box.2)) w) := by
  have HG := Lib.hid hg
  have hgl := (cells_of_block hg).2.2
  clear hg
  obtain ⟨q, hq⟩ : ∃ q, ((List.range cs.length).any fun (s : Nat) => cs.getD s false && inB ((s : Int) + more) l.box.1 l.box.2) = q := ⟨_, rfl⟩
  rw [hq]
  have HQ := Lib.hid hq
  clear hq
  go_enter Tryz.func104, Tryz.ntmps104
  go_wp2_with fail
  have hk0 := heap_new0 w (.cells (lcells l tv nv) 30)
  obtain ⟨w1, hw1⟩ : ∃ w1, w.alloc (.cells (lcells l tv nv) 30) = w1 := ⟨_, rfl⟩
  have hB1 : Below w.heap.size w w1 := by rw [← hw1]; exact bgoAlloc (Below.refl _ _) _
  rw [hw1] at hk0
  first | rw [hw1] | skip
  have hl0 := (cells_of_block hk0).2.2
  have H1 := Lib.hid (And.intro hB1 hk0)
  clear hw1 hB1 hk0
  go_loopw [7] (fun u wr => ∃ k : Nat, k ≤ cs.length ∧ u = .int .i64 k ∧ (∀ j : Nat, j < k → (cs.getD j false && inB ((j : Int) + more) l.box.1 l.box.2) = false) ∧ Below w1.heap.size w1 wr) (fun u _ => cs.length - (intOf u).toNat)
  case atStart => exact ⟨0, Nat.zero_le _, rfl, fun j hj => by omega, Below.refl _ _⟩
  case round =>
    obtain ⟨k, hk, rfl, hno, hB⟩ := hrel
    have hk0 := (hB.block _ hl0).trans H1.out.2
    obtain ⟨c0, f0, l0⟩ := cells_of_block hk0
    have HB := Lib.hid hB
    by_cases hlt : k < cs.length
    · have hcell := cell_of_bools (((bgo H1.out.1 hB).block g hgl).trans HG.out) hlt
      have hltI : (k : Int) < cs.length := by omega
      have HNO := Lib.hid hno
      obtain ⟨x, hx⟩ : ∃ x, cs.getD k false = x := ⟨_, rfl⟩
      rw [hx] at hcell
      have HXX := Lib.hid hx
      clear hk0 hno hB hx
      cases x
      · have HV := Lib.hid (show ∀ j : Nat, j < k + 1 → (cs.getD j false && inB ((j : Int) + more) l.box.1 l.box.2) = false from fun j hj => by
          by_cases e : j = k
          · subst e; rw [HXX.out]; rfl
          · exact HNO.out j (by omega))
        go_wp2_with fail
        go_roundw
        case rel => exact ⟨k + 1, by omega, by go_num, HV.out, HB.out⟩
        case measure => simp [intOf]; omega
      · obtain ⟨ib, hib⟩ : ∃ ib, inB ((k : Int) + more) l.box.1 l.box.2 = ib := ⟨_, rfl⟩
        have HI := Lib.hid (fun W => rIn_any ((k : Int) + more) l.box.1 l.box.2 W)
        rw [hib] at HI
        have HIB := Lib.hid hib
        clear hib
        go_wp2_with fail
        refine (HI.out _).mono ?_
        rintro e W3 ⟨rfl, hb3⟩
        have HB3 := Lib.hid (bgo HB.out hb3)
        clear hb3
        cases ib
        · have HV := Lib.hid (show ∀ j : Nat, j < k + 1 → (cs.getD j false && inB ((j : Int) + more) l.box.1 l.box.2) = false from fun j hj => by
            by_cases e : j = k
            · subst e; rw [HIB.out, Bool.and_false]
            · exact HNO.out j (by omega))
          go_wp2_with fail
          go_roundw
          case rel => exact ⟨k + 1, by omega, by go_num, HV.out, HB3.out⟩
          case measure => simp [intOf]; omega
        · have HV := Lib.hid (show q = true from by
            rw [← HQ.out, List.any_eq_true]
            exact ⟨k, List.mem_range.2 hlt, by rw [HXX.out, HIB.out]; rfl⟩)
          go_wp2_with fail
          go_returns
          exact ⟨by rw [HV.out]; simp, bgo H1.out.1 HB3.out⟩
    · have hkn : k = cs.length := by omega
      have hnl : ¬ (k : Int) < cs.length := by omega
      have HV := Lib.hid (show q = false from by
        rw [← HQ.out, List.any_eq_false]
        intro j hj
        rw [hno j (by have := List.mem_range.1 hj; omega)]
        simp)
      clear hno hB hk0
      go_wp2_with fail
      go_returns
      exact ⟨by rw [HV.out]; simp, bgo H1.out.1 HB.out⟩

/-- A list of its own, of truth values. -/
def PBools (cs : List Bool) (w : World) (e : Ending) (w' : World) : Prop := ∃ g, e = .returned (.slice (some ⟨g, 0, none⟩) cs.length cs.length) ∧ w'.heap[g]? = some (.cells (boolCells cs).toArray 4 (0, 0)) ∧ w.heap.size ≤ g ∧ Below w.heap.size w w'

set_option maxHeartbeats 8000000 in
theorem Sums_any {l : LedgerD} (hS : SoundL l) (tv nv dv : Value) (m : Nat) (ds : List Int) (but : Int) (w : World) (hn : TriplesAt w nv l.notes) (hd : IntsAt w dv ds) (hdb : ∀ x ∈ ds, 0 ≤ x ∧ x ≤ 350) (hl : ds.length ≤ 3) (hm : (m : Int) ≤ 1000) :
    Calls Tryz.prog 105 #[lv l tv nv, iv m, dv, iv but] w (PBools (canN l m ds but ((sumI ds).toNat + 1) ds.length) w) := by
  obtain ⟨on, cn, rfl⟩ := hn.open
  obtain ⟨od, cd, rfl⟩ := hd.open
  have hsb : ∀ xs : List Int, (∀ x ∈ xs, 0 ≤ x ∧ x ≤ 350) → 0 ≤ sumI xs ∧ sumI xs ≤ 350 * xs.length := by
    intro xs
    induction xs with
    | nil => intro _; simp [sumI]
    | cons a xs ih => intro h; have := ih fun x hx => h x (by simp [hx]); have := h a (by simp); rw [sumI_cons]; simp only [List.length_cons]; push_cast; omega
  have hsb := hsb ds hdb
  obtain ⟨T, hT⟩ : ∃ T : Nat, sumI ds = (T : Int) := ⟨(sumI ds).toNat, by omega⟩
  have hT5 : T ≤ 1050 := by omega
  obtain ⟨L, hL⟩ : ∃ L : Nat, (sumI ds).toNat + 1 = L := ⟨_, rfl⟩
  have hLT : L = T + 1 := by omega
  have hmk : ∀ W : World, (Instr.makeSlice 159 (iv ((T : Int) + 1)) (iv ((T : Int) + 1))).run Tryz.prog W = .ok (.slice (some ⟨W.heap.size, 0, none⟩) L L) (W.alloc (.cells (boolCells (List.replicate L false)).toArray 4)) := fun W => by
    have := make_bools L (by omega) W
    rw [hLT] at this ⊢
    exact_mod_cast this
  have hmk2 := make_bools L (by omega)
  have HSUM := Lib.hid (fun (W : World) (h : IntsAt W (.slice od ds.length cd) ds) => zSum_any ds (.slice od ds.length cd) W h (fun x hx => by have := hdb x hx; omega) (by omega))
  rw [hT] at HSUM
  rw [hL]
  have HX := Lib.hid (And.intro hn hd)
  have HS := Lib.hid (And.intro hS hdb)
  have hn5 := hS.many
  have HT := Lib.hid (And.intro hT (And.intro hL hLT))
  have hL0 : (0 : Int) < L := by omega
  have hL5 : L ≤ 5000 := by omega
  have hz0 := canN_zero l m ds but T
  rw [← hLT] at hz0
  have HZ := Lib.hid hz0
  clear hn hd hS hdb hT hL hsb hz0 hLT
  obtain ⟨nd, hnd⟩ : ∃ nd, ds.length = nd := ⟨_, rfl⟩
  have HND := Lib.hid hnd
  rw [hnd] at HSUM hl ⊢
  clear hnd
  go_enter Tryz.func105, Tryz.ntmps105
  go_wp2_with fail
  refine gworldC fun W0 hW0 => ?_
  have hk0 : W0.heap[w.heap.size]? = some (.cells (lcells l tv (.slice on l.notes.length cn)) 30 (0, 0)) := by rw [hW0]; exact heap_new0 w _
  have hB0 : Below w.heap.size w W0 := by rw [hW0]; exact bgoAlloc (Below.refl _ _) _
  have hl0 := (cells_of_block hk0).2.2
  have H0 := Lib.hid (And.intro hB0 hk0)
  clear hW0 hk0 hB0
  refine (HSUM.out W0 (by have := HX.out.2.below H0.out.1 (Nat.le_refl _); rw [HND.out] at this; unfold IntsAt; rw [HND.out]; exact this)).mono ?_
  rintro e W1 ⟨rfl, hb⟩
  have HB1 := Lib.hid (show Below W0.heap.size W0 W1 from hb)
  have hz1 := hb.size
  clear hb
  go_upto_region 2 with (fail)
  refine gworld fun W9 hW9 => ?_
  have hk9 : W9.heap[W1.heap.size]? = some (.cells (boolCells (List.replicate L false)).toArray 4 (0, 0)) := by rw [hW9]; exact heap_new0 _ _
  have hb9 : Below W0.heap.size W0 W9 := bgo HB1.out (by rw [hW9]; exact bgoAlloc (Below.refl _ _) _)
  have hc9 := cell_of_bools hk9 (k := 0) (by simp; omega)
  have hf9 := frozen_of_block hk9 0
  have hl9 := (cells_of_block hk9).2.2
  have H9 := Lib.hid (And.intro hk9 hb9)
  clear hW9 hk9 hb9
  go_upto_region 3 with (fail)
  refine gworld fun W2 hW2 => ?_
  have hk2 : W2.heap[W1.heap.size]? = some (.cells (boolCells (canN l m ds but L 0)).toArray 4 (0, 0)) := by
    rw [hW2, HZ.out]
    exact set_bools H9.out.1 0 true
  have hB2 : Below W0.heap.size W0 W2 := by rw [hW2]; exact bgoSet H9.out.2 (by simp; exact hz1) _
  have H2 := Lib.hid (And.intro hk2 hB2)
  clear hk2 hB2 hW2 hc9 hf9 hl9 H9
  obtain ⟨g0, hg0⟩ : ∃ g0, W1.heap.size = g0 := ⟨_, rfl⟩
  rw [hg0] at H2 hz1 ⊢
  clear hg0
  go_wp2_with fail
  go_loopw [9, 10] (fun v9 u wr => ∃ k g : Nat, k ≤ nd ∧ u = .int .i64 k ∧ v9 = .slice (some ⟨g, 0, none⟩) L L ∧ wr.heap[g]? = some (.cells (boolCells (canN l m ds but L k)).toArray 4 (0, 0)) ∧ W0.heap.size ≤ g ∧ Below W0.heap.size W0 wr) (fun _ u _ => nd - (intOf u).toNat)
  case atStart => exact ⟨0, g0, Nat.zero_le _, rfl, rfl, H2.out.1, hz1, H2.out.2⟩
  case round =>
    obtain ⟨k, g, hk, rfl, rfl, hgb, hgw, hB⟩ := hrel
    have hk0 := (hB.block _ hl0).trans H0.out.2
    have hgl := (cells_of_block hgb).2.2
    have HK := Lib.hid (And.intro hgb hB)
    by_cases hlt : k < nd
    · have hkd : k < ds.length := by rw [HND.out]; exact hlt
      have hltI : (k : Int) < nd := by omega
      by_cases hbut : (k : Int) = but
      · have hbutb : ((k : Int) == but) = true := by simpa using hbut
        have HV := Lib.hid (canN_skip l m ds (L := L) hbut)
        clear hgb hB hk0 hbut
        go_wp2_with fail
        go_roundw
        case rel => exact ⟨k + 1, g, by omega, by go_num, rfl, by rw [HV.out]; exact HK.out.1, hgw, HK.out.2⟩
        case measure => simp [intOf]; omega
      · have hbutb : ((k : Int) == but) = false := by rw [beq_eq_false_iff_ne]; exact hbut
        have hstep := canN_step HS.out.1 m HS.out.2 (L := L) hkd hbut
        have hcl := canN_len l m ds but L k
        have hdkb := HS.out.2 _ (List.getElem_mem hkd)
        obtain ⟨b, off, hv, hb1, hc1⟩ := IntsAt.cell (show SlAt 1 wr (.slice od ds.length cd) ds.length (intCells ds) from (HX.out.2.below H0.out.1 (Nat.le_refl _)).below hB (Nat.le_refl _)) hkd
        have gd : ds.getD k 0 = ds[k] := by simp [List.getD, hkd]
        rw [gd] at hstep
        have HDAT := Lib.hid (fun (W : World) (h : Below W0.heap.size W0 W) => (IntsAt.cell (show SlAt 1 W (.slice od ds.length cd) ds.length (intCells ds) from (HX.out.2.below H0.out.1 (Nat.le_refl _)).below h (Nat.le_refl _)) hkd))
        generalize ds[k] = dk at *
        obtain ⟨D, rfl⟩ : ∃ D : Nat, dk = D := ⟨dk.toNat, by omega⟩
        rw [Int.toNat_natCast] at hstep
        generalize canN l m ds but L k = cs at *
        obtain ⟨fit, hfit⟩ : ∃ fit : Nat → Bool, (fun (p : Nat) => fitB l m k (D : Int) (p : Int)) = fit := ⟨_, rfl⟩
        rw [hfit] at hstep
        have HFIT := Lib.hid (fun p => congrFun hfit p)
        have HST := Lib.hid (And.intro hstep hcl)
        have hD : D ≤ 350 := by omega
        cases hv
        have HB1' := Lib.hid (show ∀ W : World, Below W0.heap.size W0 W → W.cell? ⟨b, off + k, none⟩ = some (iv (D : Int)) from fun W h => by
          obtain ⟨b', off', e1, _, e2⟩ := HDAT.out W h
          cases e1
          exact e2)
        clear hfit hstep hgb hB hk0 hc1 gd hbut HDAT hcl hdkb
        go_upto_region 8 with (fail)
        refine gworld fun W3 hW3 => ?_
        have hkh : W3.heap[wr.heap.size]? = some (.cells (boolCells (nxtL fit cs 0)).toArray 4 (0, 0)) := by
          rw [hW3, nxtL_zero, HST.out.2]
          exact heap_new0 wr _
        have hkg : W3.heap[g]? = some (.cells (boolCells cs).toArray 4 (0, 0)) := by
          rw [hW3]
          exact (Below.heap_alloc _ _ _ hgl).trans HK.out.1
        have hB3 : Below W0.heap.size W0 W3 := bgo HK.out.2 (by rw [hW3]; exact bgoAlloc (Below.refl _ _) _)
        have hsz := HK.out.2.size
        obtain ⟨h, hh⟩ : ∃ h, wr.heap.size = h := ⟨_, rfl⟩
        rw [hh] at hkh hsz hgl ⊢
        have hgh : ¬ g = h := by omega
        have hhg : ¬ h = g := by omega
        have H3 := Lib.hid (And.intro hkh (And.intro hkg hB3))
        clear hW3 hkh hkg hB3 hh
        go_wp2_with fail
        go_loopw [12] (fun u wr => ∃ P : Nat, P ≤ D + 1 ∧ u = .int .i64 P ∧ wr.heap[h]? = some (.cells (boolCells (nxtL fit cs P)).toArray 4 (0, 0)) ∧ wr.heap[g]? = some (.cells (boolCells cs).toArray 4 (0, 0)) ∧ Below W0.heap.size W0 wr) (fun u _ => D + 1 - (intOf u).toNat)
        case atStart => exact ⟨0, Nat.zero_le _, rfl, H3.out.1, H3.out.2.1, H3.out.2.2⟩
        case round =>
          obtain ⟨P, hP, rfl, hkh, hkg, hBq⟩ := hrel
          have hk0 := (hBq.block _ hl0).trans H0.out.2
          obtain ⟨c0, f0, l0⟩ := cells_of_block hk0
          have hdc := HB1'.out wr hBq
          have hbb : b < wr.heap.size := World.block_lt_of_cell? _ _ hdc
          have HQ := Lib.hid (And.intro hkh (And.intro hkg hBq))
          have hhl := (cells_of_block hkh).2.2
          clear hkh hkg hBq hk0
          by_cases hPD : P ≤ D
          · have hPI : (P : Int) ≤ D := by omega
            have HF := Lib.hid (fun (W : World) (h : TriplesAt W (.slice on l.notes.length cn) l.notes) => fits_any l tv (.slice on l.notes.length cn) m k (D : Int) (P : Int) W h hm (by omega) (by omega))
            obtain ⟨fb, hfb⟩ : ∃ fb, fitB l m k (D : Int) (P : Int) = fb := ⟨_, rfl⟩
            rw [hfb] at HF
            have hfp := HFIT.out P
            rw [hfb] at hfp
            have HFP := Lib.hid hfp.symm
            clear hfb hfp
            go_wp2_with fail
            refine wp_region_rg 10 [] none [(8, Spec.val (.bool fb))] (by as_aux_lemma => kernel_rfl) (by as_aux_lemma => kernel_rfl) ?_
            simp only [List.take_succ_cons, List.take_zero, List.drop_succ_cons, List.drop_zero]
            repeat (first | (refine tree_det (by rfl) _ (by rfl) (fun W hW => by go_simp; (try simp (disch := omega) only [IntWalk.i64_in]); try rfl) ?_; simp only [Act.put, List.setIfInBounds_toArray, List.set_cons_succ, List.set_cons_zero]) | (refine tree_skip (by rfl) (by rfl) ?_; simp only [Act.put, List.setIfInBounds_toArray, List.set_cons_succ, List.set_cons_zero]))
            refine tree_val _ (by rfl) (by rfl) 106 #[lv l tv (.slice on l.notes.length cn), iv m, iv k, iv D, iv P] (fun W hW => by go_simp; try rfl) (fun W hE hF => by exact HF.out W (((HX.out.1.below H0.out.1 (Nat.le_refl _)).below HQ.out.2.2 (Nat.le_refl _)).below (Ext.below (show Ext [] wr W from hE)) (Nat.le_refl _))) ?_
            simp only [Act.put, List.setIfInBounds_toArray, List.set_cons_succ, List.set_cons_zero]
            repeat (first | (refine tree_det (by rfl) _ (by rfl) (fun W hW => by go_simp; (try simp (disch := omega) only [IntWalk.i64_in]); try rfl) ?_; simp only [Act.put, List.setIfInBounds_toArray, List.set_cons_succ, List.set_cons_zero]) | (refine tree_skip (by rfl) (by rfl) ?_; simp only [Act.put, List.setIfInBounds_toArray, List.set_cons_succ, List.set_cons_zero]))
            intro W4 hE hF
            have hE' : Ext [] wr W4 := hE
            have hgl2 := (cells_of_block HQ.out.2.1).2.2
            have H4 := Lib.hid (And.intro ((hE'.block h hhl (by simp)).trans HQ.out.1) (And.intro ((hE'.block g hgl2 (by simp)).trans HQ.out.2.1) (bgo HQ.out.2.2 hE'.below)))
            clear hE hF hE' c0 f0 l0 hdc
            cases fb
            · have HV := Lib.hid (nxtL_no (cs := cs) HFP.out)
              go_wp2_with fail
              go_roundw
              case rel => exact ⟨P + 1, by omega, by go_num, by rw [HV.out]; exact H4.out.1, H4.out.2.1, H4.out.2.2⟩
              case measure => simp [intOf]; omega
            · go_wp2_with fail
              go_loopw [13] (fun u wr => ∃ S : Nat, S ≤ L ∧ u = .int .i64 S ∧ wr.heap[h]? = some (.cells (boolCells (nxtIn fit cs P S)).toArray 4 (0, 0)) ∧ wr.heap[g]? = some (.cells (boolCells cs).toArray 4 (0, 0)) ∧ Below W0.heap.size W0 wr) (fun u _ => L - (intOf u).toNat)
              case atStart => exact ⟨0, Nat.zero_le _, rfl, by rw [nxtIn_zero]; exact H4.out.1, H4.out.2.1, H4.out.2.2⟩
              case round =>
                obtain ⟨S, hSL, rfl, hkh, hkg, hBq⟩ := hrel
                obtain ⟨Q, hQ⟩ : ∃ Q : Nat, S + P = Q := ⟨_, rfl⟩
                have hQI : (S : Int) + (P : Int) = (Q : Int) := by omega
                have hQ5 : Q ≤ 6000 := by omega
                by_cases hlt2 : Q < L
                · have hcl := HST.out.2
                  have hQc : Q < (nxtIn fit cs P S).length := by rw [nxtIn_len]; omega
                  have hcell1 := cell_of_bools hkh hQc
                  have hcell2 := cell_of_bools hkg (show S < cs.length by omega)
                  have hsuc := nxtIn_succ (fit := fit) (cs := cs) (P := P) (S := S) (by omega)
                  rw [hQ] at hsuc
                  have hfr := frozen_of_block hkh Q
                  generalize (nxtIn fit cs P S).getD Q false = x at *
                  generalize cs.getD S false = y at *
                  have HR := Lib.hid (And.intro hkh (And.intro hkg (And.intro hBq hsuc)))
                  have hQLI : (Q : Int) < L := by omega
                  have hSLI : (S : Int) < L := by omega
                  have hhx := (cells_of_block hkh).2.2
                  have HBH := Lib.hid (show W0.heap.size ≤ h from by omega)
                  clear hkh hkg hBq hsuc hQ hQc hcl
                  cases x
                  · go_wp2_with fail
                    go_roundw
                    case rel =>
                      have hs := set_bools HR.out.1 Q (false || y)
                      rw [HR.out.2.2.2] at hs
                      exact ⟨S + 1, by omega, by go_num, hs, (Below.heap_setCell _ _ _ _ hgh).trans HR.out.2.1, bgoSet HR.out.2.2.1 (by simp; have := HBH.out; omega) _⟩
                    case measure => simp [intOf]; omega
                  · go_wp2_with fail
                    go_roundw
                    case rel =>
                      have hs := set_bools HR.out.1 Q (true || y)
                      rw [HR.out.2.2.2] at hs
                      exact ⟨S + 1, by omega, by go_num, hs, (Below.heap_setCell _ _ _ _ hgh).trans HR.out.2.1, bgoSet HR.out.2.2.1 (by simp; have := HBH.out; omega) _⟩
                    case measure => simp [intOf]; omega
                · have hnl : ¬ (Q : Int) < L := by omega
                  have HV := Lib.hid (nxtIn_all (cs := cs) (S := S) HFP.out (by have := HST.out.2; omega))
                  have HR := Lib.hid (And.intro hkh (And.intro hkg hBq))
                  clear hkh hkg hBq
                  go_wp2_with fail
                  go_roundw
                  case rel => exact ⟨P + 1, by omega, by go_num, by rw [← HV.out]; exact HR.out.1, HR.out.2.1, HR.out.2.2⟩
                  case measure => simp [intOf]; omega
          · have hPe : P = D + 1 := by omega
            have hnl : ¬ (P : Int) ≤ D := by omega
            have HV := Lib.hid (show nxtL fit cs P = canN l m ds but L (k + 1) from by rw [hPe]; exact HST.out.1)
            go_wp2_with fail
            go_roundw
            case rel => exact ⟨k + 1, h, by omega, by go_num, rfl, by rw [← HV.out]; exact HQ.out.1, by omega, HQ.out.2.2⟩
            case measure => simp [intOf]; omega
    · have hkn : k = nd := by omega
      have hnl : ¬ (k : Int) < nd := by omega
      clear hgb hB hk0
      go_wp2_with fail
      go_returns
      refine ⟨g, by rw [canN_len]; simp, by rw [← hkn]; exact HK.out.1, by omega, bgo H0.out.1 HK.out.2⟩
end Go.Proofs.YtdjgikcnmokjkaaGreat

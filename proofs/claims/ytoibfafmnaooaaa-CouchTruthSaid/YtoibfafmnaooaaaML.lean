/-
  The plain laws of chapter 4, third part: bounds, verdicts, fewest turnings. No program in sight.
  Contracts of the law: turned, narrower, needed.
-/
import Derived.WalkKit
import Derived.WalkLawsBesides
import Derived.WalkSpells
import Derived.Outline
import Derived.Handy
import Derived.KernelRfl
import Derived.Lib.Hide
import Derived.Test.YtoibfafmnaooaaaSA
import Derived.Test.YtoibfafmnaooaaaWD
import Derived.Test.YtoibfafmnaooaaaWE
import Derived.Test.YtoibfafmnaooaaaSB
namespace Go.Proofs.Ytoibfafmnaooaaa
open Cou

/-! ### The bounds of some heats -/
theorem getD_lt {α : Type} {l : List α} {i : Nat} {d : α} (h : i < l.length) : l.getD i d = l[i] := by simp [List.getD, h]

theorem boundsTo_at (n : Nat) (ls : List (List Int)) : ∀ k, k ≤ ls.length → k ≠ 0 → ∀ i, i < n →
    (∀ l ∈ ls.take k, ((boundsTo n ls k).getD i (0, 0)).1 ≤ l.getD i 0 ∧ l.getD i 0 ≤ ((boundsTo n ls k).getD i (0, 0)).2) ∧
    (∃ l ∈ ls.take k, ((boundsTo n ls k).getD i (0, 0)).1 = l.getD i 0) ∧ (∃ l ∈ ls.take k, ((boundsTo n ls k).getD i (0, 0)).2 = l.getD i 0) := by
  intro k
  induction k with
  | zero => intro _ h; exact absurd rfl h
  | succ k ih =>
    intro hk _ i hi
    have hk' : k < ls.length := by omega
    have ht : ls.take (k + 1) = ls.take k ++ [ls[k]] := List.take_succ_eq_append_getElem hk'
    have hg : ls.getD k [] = ls[k] := getD_lt hk'
    by_cases h0 : k = 0
    · subst h0
      have e : (boundsTo n ls 1).getD i (0, 0) = ((ls[0]).getD i 0, (ls[0]).getD i 0) := by
        simp only [boundsTo, partB, hg]
        rw [getD_lt (by simp; omega)]
        simp
      rw [e]
      simp only [Nat.zero_add] at ht ⊢
      rw [ht]
      exact ⟨fun l hl => by obtain rfl := List.mem_singleton.1 (by simpa using hl); exact ⟨Int.le_refl _, Int.le_refl _⟩, ⟨ls[0], by simp, rfl⟩, ⟨ls[0], by simp, rfl⟩⟩
    · obtain ⟨h1, ⟨l2, hl2, h2⟩, ⟨l3, hl3, h3⟩⟩ := ih (by omega) h0 i hi
      have hlen := boundsTo_len n ls k h0
      have e : (boundsTo n ls (k + 1)).getD i (0, 0) = wid ((boundsTo n ls k).getD i (0, 0)) ((ls[k]).getD i 0) := by
        simp only [boundsTo, partB, hg, h0, if_false]
        rw [getD_lt (by simp; omega)]
        simp [hi]
      rw [e, ht]
      generalize (boundsTo n ls k).getD i (0, 0) = r at *
      simp only [wid]
      refine ⟨fun l hl => ?_, ?_, ?_⟩
      · rcases List.mem_append.1 hl with hl | hl
        · have := h1 l hl; omega
        · obtain rfl := List.mem_singleton.1 hl; omega
      · by_cases hc : r.1 ≤ (ls[k]).getD i 0
        · exact ⟨l2, List.mem_append_left _ hl2, by omega⟩
        · exact ⟨ls[k], List.mem_append_right _ (List.mem_singleton.2 rfl), by omega⟩
      · by_cases hc : (ls[k]).getD i 0 ≤ r.2
        · exact ⟨l3, List.mem_append_left _ hl3, by omega⟩
        · exact ⟨ls[k], List.mem_append_right _ (List.mem_singleton.2 rfl), by omega⟩

theorem boundsL_len {n : Nat} {ls : List (List Int)} (h : ls ≠ []) : (boundsL n ls).length = n := boundsTo_len n ls _ (by cases ls <;> simp_all)
theorem boundsL_at {n : Nat} {ls : List (List Int)} (h : ls ≠ []) {i : Nat} (hi : i < n) :
    (∀ l ∈ ls, ((boundsL n ls).getD i (0, 0)).1 ≤ l.getD i 0 ∧ l.getD i 0 ≤ ((boundsL n ls).getD i (0, 0)).2) ∧
    (∃ l ∈ ls, ((boundsL n ls).getD i (0, 0)).1 = l.getD i 0) ∧ (∃ l ∈ ls, ((boundsL n ls).getD i (0, 0)).2 = l.getD i 0) := by
  have := boundsTo_at n ls ls.length (Nat.le_refl _) (by cases ls <;> simp_all) i hi
  rwa [List.take_length] at this

/-- Fewer heats: no bounds are wider. -/
theorem boundsL_sub {n : Nat} {ls ms : List (List Int)} (hl : ls ≠ []) (hs : ∀ l ∈ ls, l ∈ ms) {i : Nat} (hi : i < n) :
    ((boundsL n ms).getD i (0, 0)).1 ≤ ((boundsL n ls).getD i (0, 0)).1 ∧ ((boundsL n ls).getD i (0, 0)).2 ≤ ((boundsL n ms).getD i (0, 0)).2 := by
  have hm : ms ≠ [] := by
    cases ls with
    | nil => exact absurd rfl hl
    | cons l ls => intro e; have := hs l (by simp); rw [e] at this; cases this
  obtain ⟨_, ⟨l1, h1, e1⟩, ⟨l2, h2, e2⟩⟩ := boundsL_at hl hi
  have h3 := (boundsL_at hm hi).1 l1 (hs _ h1)
  have h4 := (boundsL_at hm hi).1 l2 (hs _ h2)
  omega

/-! ### Without cooling -/
theorem heatAt_still {size cool : Int} (hc : cool = 0) (turns : List Int) (start : Int) (wet : List Int) : ∀ k, heatAt size cool turns start wet k = heatAt size cool [] start wet k := by
  subst hc
  intro k
  induction k with
  | zero => rfl
  | succ k ih => simp only [heatAt, stepH, ih, cooled]; split <;> simp
theorem heats_still {h : HeapD} (hc : h.cool = 0) (t : Int × List Int) (turns : List Int) : heats h t turns = heats h t [] := by
  unfold heats heatsTo
  apply List.map_congr_left
  intro j _
  rw [heatAt_still hc turns]
theorem every_still {h : HeapD} (hc : h.cool = 0) (turns : List Int) : everyL h turns = everyL h [] := by
  unfold everyL
  congr 1
  funext acc t
  rw [heats_still hc]
theorem ask_of' {h : HeapD} (hS : Sound h) : askErr h [] = if (truthsL h []).isEmpty then 11 else 0 := by
  unfold askErr
  rw [if_neg (by rw [fault_sound hS]; simp), if_neg (by simp [isTurns, turnsFrom])]
theorem ask_turns {h : HeapD} (hS : Sound h) {turns : List Int} (ht : isTurns h.last turns = true) : askErr h turns = if (truthsL h []).isEmpty then 11 else 0 := by
  unfold askErr
  rw [if_neg (by rw [fault_sound hS]; simp), if_neg (by rw [ht]; simp)]

def narrowerB (a b : List Rng) : Bool := decide (a.length = b.length) && (List.range a.length).all fun i => insideB (a.getD i (0, 0)) (b.getD i (0, 0))
theorem narrowerB_of {a b : List Rng} (hl : a.length = b.length) (h : ∀ i, i < a.length → (b.getD i (0, 0)).1 ≤ (a.getD i (0, 0)).1 ∧ (a.getD i (0, 0)).2 ≤ (b.getD i (0, 0)).2) : narrowerB a b = true := by
  simp only [narrowerB, Bool.and_eq_true, decide_eq_true_eq, List.all_eq_true, List.mem_range]
  exact ⟨hl, fun i hi => by simp only [insideB, Bool.and_eq_true, decide_eq_true_eq]; exact h i hi⟩
theorem narrowerB_refl (a : List Rng) : narrowerB a a = true := narrowerB_of rfl fun _ _ => ⟨Int.le_refl _, Int.le_refl _⟩

theorem every_ne {h : HeapD} {turns : List Int} (ht : (truthsL h []).isEmpty = false) : everyL h turns ≠ [] := everyL_nil (by cases hl : truthsL h [] <;> simp_all)

theorem still_plain {h : HeapD} (hS : Sound h) (hc : h.cool = 0) {turns : List Int} (ht : isTurns h.last turns = true) :
    (askErr h [] = 11 ∧ askErr h turns = 11 ∧ fewErr h = 11) ∨
    (askErr h [] = 0 ∧ askErr h turns = 0 ∧ boundsOut h turns = boundsOut h [] ∧ ((fewErr h = 0 ∧ fewL h = []) ∨ (fewErr h = 10 ∧ (askErr h turns == 0 && keepsV h turns == 1) = false))) := by
  have h1 := ask_of' hS
  have h2 := ask_turns hS ht
  cases hem : (truthsL h []).isEmpty
  · rw [hem] at h1 h2
    refine .inr ⟨h1, h2, ?_, ?_⟩
    · unfold boundsOut
      rw [h1, h2, every_still hc]
    · have hsafe : ∀ l, safeL h l = safeL h [] := fun l => by
        unfold safeL
        congr 1
        funext t
        rw [heats_still hc]
      cases hs : safeL h []
      · right
        have hf : fewS h = none := by
          unfold fewS
          cases hsh : shortL (h.last + 1).toNat (safeL h) with
          | none => rfl
          | some c => have := (shortL_some hsh).1; rw [hsafe, hs] at this; cases this
        refine ⟨by unfold fewErr; rw [h1, hf]; rfl, ?_⟩
        rw [Bool.and_eq_false_iff]
        right
        rw [beq_eq_false_iff_ne]
        unfold keepsV
        rw [h2]
        simp only [Bool.false_eq_true, ne_eq, not_true_eq_false, if_false]
        have : ¬ (everyL h turns).all (keptL h) = true := by
          intro hall
          rw [List.all_eq_true] at hall
          have : safeL h turns = true := by
            unfold safeL
            rw [List.all_eq_true]
            intro t htm
            exact hall _ ((mem_everyL h turns _).2 ⟨t, htm, rfl⟩)
          rw [hsafe, hs] at this
          cases this
        rw [if_neg this]
        split <;> decide
      · left
        have hf : fewS h = some [] := shortL_is hs trivial fun x _ _ => by cases x <;> simp [shorter, before]
        exact ⟨by unfold fewErr; rw [h1, hf]; rfl, by unfold fewL; rw [h1, hf]; rfl⟩
  · rw [hem] at h1 h2
    exact .inl ⟨h1, h2, by unfold fewErr; rw [h1]; rfl⟩

end Go.Proofs.Ytoibfafmnaooaaa

namespace Go.Proofs.Ytoibfafmnaooaaa
open Go.RowKit Go.RG Go.SL Go.Shelf Cou
set_option maxHeartbeats 400000
set_option maxRecDepth 10000

/-- Turnings by bits. -/
def turnedL (h : HeapD) (bs : Nat) : List Int := bitsL (bs &&& (2 ^ (h.last.toNat + 1) - 1))
theorem turned_lt (h : HeapD) (bs : Nat) : bs &&& (2 ^ (h.last.toNat + 1) - 1) < 2 ^ (h.last.toNat + 1) := by
  have : bs &&& (2 ^ (h.last.toNat + 1) - 1) ≤ 2 ^ (h.last.toNat + 1) - 1 := Nat.and_le_right
  have := Nat.one_le_two_pow (n := h.last.toNat + 1)
  omega
theorem turned_turns {h : HeapD} (h0 : 0 ≤ h.last) (bs : Nat) : isTurns h.last (turnedL h bs) = true := by
  rw [turns_inc h0]
  unfold turnedL
  rw [bitsL_eq (turned_lt h bs), show (h.last + 1).toNat = h.last.toNat + 1 from by omega]
  exact inc_bitsTo _ _

theorem turned_any (h : HeapD) (a b c : Value) (bs : Nat) (w : World) (h0 : 0 ≤ h.last) (h9 : h.last ≤ 9) (hb : (bs : Int) ≤ 65535) :
    Calls Try.prog 34 #[hv h a b c, .int .u16 bs] w (PInts (turnedL h bs) w) := by
  obtain ⟨n, hn⟩ : ∃ n, h.last.toNat = n := ⟨_, rfl⟩
  have hn9 : n ≤ 9 := by omega
  obtain ⟨hp1, hp2⟩ := pow_bd hn9
  have hpN : 2 ^ (n + 1) ≤ 2 ^ 10 := Nat.pow_le_pow_right (by omega) (by omega)
  have hp1N := Nat.one_le_two_pow (n := n + 1)
  have hlt := turned_lt h bs
  have HQ : Hid (turnedL h bs = bitsL (bs &&& (2 ^ (n + 1) - 1))) := Lib.hid (by unfold turnedL; rw [hn])
  rw [hn] at hlt
  have hand := and_nat bs (2 ^ (n + 1) - 1) (by omega) (by omega)
  rw [← pow_cast2] at hand
  generalize bs &&& (2 ^ (n + 1) - 1) = r at *
  have HL : Hid (r < 2 ^ (n + 1) ∧ n + 1 ≤ 16) := Lib.hid ⟨hlt, by omega⟩
  clear hlt hpN hp1N
  go_enter Try.func34, Try.ntmps34
  go_wp2_with fail
  refine (Bits_any r (n + 1) _ HL.out.1 HL.out.2).mono ?_
  rintro e W1 ⟨v, rfl, hv, hb1⟩
  obtain ⟨o, c', rfl⟩ := hv.open
  have HV := Lib.hid hv
  have HB := Lib.hid hb1
  clear hv hb1 hand
  go_wp2_with fail
  go_returns
  refine ⟨_, by simp; rfl, ?_, bgo (bgoAlloc (Below.refl _ _) _) HB.out⟩
  rw [HQ.out]
  exact HV.out

set_option maxHeartbeats 1000000 in
theorem narrower_any (a b : List Rng) (v u : Value) (w : World) (hv : PairsAt w v a) (hu : PairsAt w u b) : Calls Try.prog 45 #[v, u] w (PV (.bool (narrowerB a b)) w) := by
  obtain ⟨o, c, rfl⟩ := hv.open
  obtain ⟨o2, c2, rfl⟩ := hu.open
  have hl1 := hv.len
  have hl2 := hu.len
  obtain ⟨q, hq⟩ : ∃ q, narrowerB a b = q := ⟨_, rfl⟩
  rw [hq]
  have HQ := Lib.hid hq
  have HV := Lib.hid hv
  have HU := Lib.hid hu
  clear hv hu hq
  by_cases hlen : a.length = b.length
  case neg =>
    have hb : ((a.length : Int) != (b.length : Int)) = true := by simp; omega
    obtain rfl : q = false := by rw [← HQ.out]; simp [narrowerB, hlen]
    clear hlen
    go_enter Try.func45, Try.ntmps45
    go_wp2_with fail
    go_returns
    exact ⟨by simp, Below.refl _ _⟩
  have hb : ((a.length : Int) != (b.length : Int)) = false := by simp [hlen]
  have HLE := Lib.hid hlen
  clear hlen
  go_enter Try.func45, Try.ntmps45
  go_wp2_with fail
  go_loopw [5] (fun u wr => ∃ k : Nat, k ≤ a.length ∧ u = .int .i64 k ∧ Below w.heap.size w wr ∧ ∀ j, j < k → insideB (a.getD j (0, 0)) (b.getD j (0, 0)) = true) (fun u _ => a.length - (intOf u).toNat)
  case atStart => exact ⟨0, Nat.zero_le _, rfl, Below.refl _ _, fun j hj => by omega⟩
  case round =>
    obtain ⟨k, hk, rfl, hB, hno⟩ := hrel
    have HN := Lib.hid hno
    clear hno
    by_cases hlt : k < a.length
    · have hlm : k < b.length := by have := HLE.out; omega
      obtain ⟨b1, off, rfl, hb1, d1, d2⟩ := PairsAt.cell (HV.out.below hB (Nat.le_refl _)) hlt
      obtain ⟨b2, off', rfl, hb2, d3, d4⟩ := PairsAt.cell (HU.out.below hB (Nat.le_refl _)) hlm
      have hltI : (k : Int) < a.length := by omega
      have hlmI : (k : Int) < b.length := by omega
      have g1 : a.getD k (0, 0) = a[k] := by simp [List.getD, hlt]
      have g2 : b.getD k (0, 0) = b[k] := by simp [List.getD, hlm]
      generalize a[k] = x at *
      generalize b[k] = y at *
      have HG := Lib.hid (And.intro g1 g2)
      have HB := Lib.hid hB
      clear g1 g2 hB
      cases hi : insideB x y
      · obtain rfl : q = false := by
          rw [← HQ.out]
          simp only [narrowerB, Bool.and_eq_false_iff]
          right
          rw [List.all_eq_false]
          exact ⟨k, by simpa using hlt, by rw [HG.out.1, HG.out.2, hi]; simp⟩
        go_wp2_with fail
        refine wp_region_rg 10 [] none [(8, Spec.val (.bool false))] (by kernel_rfl) (by kernel_rfl) ?_
        simp only [List.take_succ_cons, List.take_zero, List.drop_succ_cons, List.drop_zero]
        repeat (first | (refine tree_det (by rfl) _ (by rfl) (fun W hW => by go_simp; (try simp (disch := omega) only [IntWalk.i64_in]); try rfl) ?_; simp only [Act.put, List.setIfInBounds_toArray, List.set_cons_succ, List.set_cons_zero]) | (refine tree_skip (by rfl) (by rfl) ?_; simp only [Act.put, List.setIfInBounds_toArray, List.set_cons_succ, List.set_cons_zero]))
        refine tree_val _ (by rfl) (by rfl) 87 _ (fun W hW => by go_simp; try rfl) (fun W hE hF => by exact by have := inside_any x y W; rw [hi] at this; exact this) ?_
        simp only [Act.put, List.setIfInBounds_toArray, List.set_cons_succ, List.set_cons_zero]
        repeat (first | (refine tree_det (by rfl) _ (by rfl) (fun W hW => by go_simp; (try simp (disch := omega) only [IntWalk.i64_in]); try rfl) ?_; simp only [Act.put, List.setIfInBounds_toArray, List.set_cons_succ, List.set_cons_zero]) | (refine tree_skip (by rfl) (by rfl) ?_; simp only [Act.put, List.setIfInBounds_toArray, List.set_cons_succ, List.set_cons_zero]))
        intro W hE hF
        obtain ⟨hc, hf⟩ := bcell hE.below
        have hzE := hE.size
        (try simp only [World.size_alloc] at hzE)
        have HE := Lib.hid hE
        clear hE hF
        go_wp2_with fail
        go_returns
        exact ⟨by simp, bgo HB.out HE.out.below⟩
      · go_wp2_with fail
        refine wp_region_rg 10 [] none [(8, Spec.val (.bool true))] (by kernel_rfl) (by kernel_rfl) ?_
        simp only [List.take_succ_cons, List.take_zero, List.drop_succ_cons, List.drop_zero]
        repeat (first | (refine tree_det (by rfl) _ (by rfl) (fun W hW => by go_simp; (try simp (disch := omega) only [IntWalk.i64_in]); try rfl) ?_; simp only [Act.put, List.setIfInBounds_toArray, List.set_cons_succ, List.set_cons_zero]) | (refine tree_skip (by rfl) (by rfl) ?_; simp only [Act.put, List.setIfInBounds_toArray, List.set_cons_succ, List.set_cons_zero]))
        refine tree_val _ (by rfl) (by rfl) 87 _ (fun W hW => by go_simp; try rfl) (fun W hE hF => by exact by have := inside_any x y W; rw [hi] at this; exact this) ?_
        simp only [Act.put, List.setIfInBounds_toArray, List.set_cons_succ, List.set_cons_zero]
        repeat (first | (refine tree_det (by rfl) _ (by rfl) (fun W hW => by go_simp; (try simp (disch := omega) only [IntWalk.i64_in]); try rfl) ?_; simp only [Act.put, List.setIfInBounds_toArray, List.set_cons_succ, List.set_cons_zero]) | (refine tree_skip (by rfl) (by rfl) ?_; simp only [Act.put, List.setIfInBounds_toArray, List.set_cons_succ, List.set_cons_zero]))
        intro W hE hF
        obtain ⟨hc, hf⟩ := bcell hE.below
        have hzE := hE.size
        (try simp only [World.size_alloc] at hzE)
        have HE := Lib.hid hE
        clear hE hF
        go_wp2_with fail
        go_roundw
        case rel =>
          refine ⟨k + 1, by omega, by go_num, bgo HB.out HE.out.below, fun j hj => ?_⟩
          by_cases e : j = k
          · subst e; rw [HG.out.1, HG.out.2]; exact hi
          · exact HN.out j (by omega)
        case measure => simp [intOf]; omega
    · have hkl : k = a.length := by omega
      obtain rfl : q = true := by
        rw [← HQ.out]
        simp only [narrowerB, Bool.and_eq_true, decide_eq_true_eq, List.all_eq_true, List.mem_range]
        exact ⟨HLE.out, fun j hj => HN.out j (by omega)⟩
      have HB := Lib.hid hB
      clear hB
      go_wp2_with fail
      go_returns
      exact ⟨by simp, HB.out⟩

def neededV (h : HeapD) : Int := if fewErr h = 10 then 100 else if fewErr h ≠ 0 then -1 else ((fewL h).length : Int)
theorem needed_any (h : HeapD) (wv tv xv' : Value) (w : World) (hw : PairsAt w wv h.wet) (ht : IntsAt w tv h.turns) (hx : TriplesAt w xv' h.readings) (hlw : h.wet.length ≤ 1000) (hlt : h.turns.length ≤ 1000) (hlx : h.readings.length ≤ 1000) :
    Calls Try.prog 44 #[hv h wv tv xv'] w (PV (iv (neededV h)) w) := by
  obtain ⟨ow, cw, rfl⟩ := hw.open
  obtain ⟨ot, ct, rfl⟩ := ht.open
  obtain ⟨ox, cx, rfl⟩ := hx.open
  have HW := Lib.hid hw
  have HT := Lib.hid ht
  have HX := Lib.hid hx
  clear hw ht hx
  have HB0 := Lib.hid (Below.refl (w.alloc (.cells #[.int .i64 h.last, .int .i64 h.size, .int .i64 h.cool, .int .i64 h.die, .int .i64 h.burn, .int .i64 h.start.1, .int .i64 h.start.2, .slice ow h.wet.length cw, .slice ot h.turns.length ct, .slice ox h.readings.length cx] 28)).heap.size (w.alloc (.cells #[.int .i64 h.last, .int .i64 h.size, .int .i64 h.cool, .int .i64 h.die, .int .i64 h.burn, .int .i64 h.start.1, .int .i64 h.start.2, .slice ow h.wet.length cw, .slice ot h.turns.length ct, .slice ox h.readings.length cx] 28)))
  obtain ⟨q, hq⟩ : ∃ q, neededV h = q := ⟨_, rfl⟩
  rw [hq]
  have HQ := Lib.hid hq
  obtain ⟨E, hE⟩ : ∃ E, fewErr h = E := ⟨_, rfl⟩
  have HE := Lib.hid hE
  clear hq hE
  by_cases h10 : E = 10
  · obtain rfl : q = 100 := by rw [← HQ.out]; unfold neededV; rw [HE.out, if_pos h10]
    subst h10
    go_enter Try.func44, Try.ntmps44
    go_wp2_with fail
    refine (Heap_any h _ _ _ _ ((HW.out.alloc _).below HB0.out (Nat.le_refl _)) ((HT.out.alloc _).below HB0.out (Nat.le_refl _)) ((HX.out.alloc _).below HB0.out (Nat.le_refl _)) (by omega) (by omega) (by omega)).mono ?_
    rintro e W1 ⟨a1, b1, c1, rfl, h1, h2, h3, hb⟩
    (try clear hcr hsr)
    have HD1 := Lib.hid hb
    have HB1 := Lib.hid (bgo HB0.out hb)
    obtain ⟨hcr, _, hsr⟩ := cells_of_block ((HB1.out.block w.heap.size (by simp)).trans (heap_new0 w _))
    clear hb
    have HH1 := Lib.hid (And.intro h1 (And.intro h2 h3))
    clear h1 h2 h3
    go_wp2_with fail
    refine (Fewest_any h _ _ _ _ HH1.out.1 HH1.out.2.1 HH1.out.2.2).mono ?_
    rw [HE.out]
    rintro e W2 ⟨v, rfl, hv, hb⟩
    obtain ⟨o, c', rfl⟩ := hv.open
    (try clear hcr hsr)
    have HD2 := Lib.hid hb
    have HB2 := Lib.hid (bgo HB1.out hb)
    obtain ⟨hcr, _, hsr⟩ := cells_of_block ((HB2.out.block w.heap.size (by simp)).trans (heap_new0 w _))
    clear hb
    clear hv
    go_wp2_with fail
    go_returns
    exact ⟨by simp, bgo (bgoAlloc (Below.refl _ _) _) HB2.out⟩
  · have h10b : (E == 10) = false := by simpa using h10
    by_cases h00 : E = 0
    · obtain rfl : q = ((fewL h).length : Int) := by rw [← HQ.out]; unfold neededV; rw [HE.out, if_neg h10, if_neg (by simp [h00])]
      subst h00
      clear h10 h10b
      go_enter Try.func44, Try.ntmps44
      go_wp2_with fail
      refine (Heap_any h _ _ _ _ ((HW.out.alloc _).below HB0.out (Nat.le_refl _)) ((HT.out.alloc _).below HB0.out (Nat.le_refl _)) ((HX.out.alloc _).below HB0.out (Nat.le_refl _)) (by omega) (by omega) (by omega)).mono ?_
      rintro e W1 ⟨a1, b1, c1, rfl, h1, h2, h3, hb⟩
      (try clear hcr hsr)
      have HD1 := Lib.hid hb
      have HB1 := Lib.hid (bgo HB0.out hb)
      obtain ⟨hcr, _, hsr⟩ := cells_of_block ((HB1.out.block w.heap.size (by simp)).trans (heap_new0 w _))
      clear hb
      have HH1 := Lib.hid (And.intro h1 (And.intro h2 h3))
      clear h1 h2 h3
      go_wp2_with fail
      refine (Fewest_any h _ _ _ _ HH1.out.1 HH1.out.2.1 HH1.out.2.2).mono ?_
      rw [HE.out]
      rintro e W2 ⟨v, rfl, hv, hb⟩
      obtain ⟨o, c', rfl⟩ := hv.open
      have hlv := hv.len
      (try clear hcr hsr)
      have HD2 := Lib.hid hb
      have HB2 := Lib.hid (bgo HB1.out hb)
      obtain ⟨hcr, _, hsr⟩ := cells_of_block ((HB2.out.block w.heap.size (by simp)).trans (heap_new0 w _))
      clear hb
      clear hv
      go_wp2_with fail
      go_returns
      exact ⟨by simp, bgo (bgoAlloc (Below.refl _ _) _) HB2.out⟩
    · obtain rfl : q = -1 := by rw [← HQ.out]; unfold neededV; rw [HE.out, if_neg h10, if_pos h00]
      have h00b : (E != 0) = true := by simpa using h00
      clear h10 h00
      go_enter Try.func44, Try.ntmps44
      go_wp2_with fail
      refine (Heap_any h _ _ _ _ ((HW.out.alloc _).below HB0.out (Nat.le_refl _)) ((HT.out.alloc _).below HB0.out (Nat.le_refl _)) ((HX.out.alloc _).below HB0.out (Nat.le_refl _)) (by omega) (by omega) (by omega)).mono ?_
      rintro e W1 ⟨a1, b1, c1, rfl, h1, h2, h3, hb⟩
      (try clear hcr hsr)
      have HD1 := Lib.hid hb
      have HB1 := Lib.hid (bgo HB0.out hb)
      obtain ⟨hcr, _, hsr⟩ := cells_of_block ((HB1.out.block w.heap.size (by simp)).trans (heap_new0 w _))
      clear hb
      have HH1 := Lib.hid (And.intro h1 (And.intro h2 h3))
      clear h1 h2 h3
      go_wp2_with fail
      refine (Fewest_any h _ _ _ _ HH1.out.1 HH1.out.2.1 HH1.out.2.2).mono ?_
      rw [HE.out]
      rintro e W2 ⟨v, rfl, hv, hb⟩
      obtain ⟨o, c', rfl⟩ := hv.open
      (try clear hcr hsr)
      have HD2 := Lib.hid hb
      have HB2 := Lib.hid (bgo HB1.out hb)
      obtain ⟨hcr, _, hsr⟩ := cells_of_block ((HB2.out.block w.heap.size (by simp)).trans (heap_new0 w _))
      clear hb
      clear hv
      go_wp2_with fail
      go_returns
      exact ⟨by simp, bgo (bgoAlloc (Below.refl _ _) _) HB2.out⟩

end Go.Proofs.Ytoibfafmnaooaaa

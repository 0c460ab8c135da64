/-
  Contracts of package wage, sixth part: possible; the error of a ledger.
  Contracts of package wage, seventh part: the error of a ledger.
  Contracts of package wage, eighth part: CheckLedger, Due, Settle, ProveSettle.
-/
import Derived.WalkKit
import Derived.WalkLawsBesides
import Derived.WalkSpells
import Derived.Outline
import Derived.Handy
import Derived.KernelRfl
import Derived.Lib.Hide
import Derived.Test.YtechgmnkcijahaaQD
namespace Go.Proofs.Ytechgmnkcijahaa
open Go.RowKit Go.RG Go.SL Go.Shelf Cou Go.TB
set_option maxHeartbeats 400000
set_option maxRecDepth 10000

abbrev duesv (d : List Int) : Value := aggI d
abbrev DuesAt (w : World) (v : Value) (ls : List (List Int)) : Prop := SlAt 3 w v ls.length (ls.flatMap intCells)

theorem idxD (l : List (List Int)) (v : Value) (fid : Nat) (fst caps : Array Value) (p : Nat → Bool) (I : Nat → World → Prop) (w : World) (h3 : ∀ x ∈ l, x.length = 3) (eg : ∀ args w, (callFunc fid args).run Try.prog w = .ok (.enter fid args) w)
    (hsl : ∀ k W, I k W → DuesAt W v l)
    (hcall : ∀ k (hk : k < l.length) W, (∀ j, j < k → p j = false) → I k W → Calls Try.prog fid (fst.push (duesv l[k]) ++ caps) W (fun e W' => e = .returned (.bool (p k)) ∧ I (k + 1) W')) (h0 : I 0 w) :
    Calls Try.prog 72 #[v, .func (.func fid) fst caps] w (IdxPost l.length p I (fun k => iv k) (iv (-1))) := by
  have hlen := (hsl 0 w h0).len
  obtain ⟨o, c, rfl⟩ := (hsl 0 w h0).open
  have HC := Lib.hid hcall
  have HS := Lib.hid hsl
  have H3 := Lib.hid h3
  clear hcall hsl h3
  go_enter Try.func72, Try.ntmps72
  go_wp2
  go_loopw [4, 5, 8] (fun _ _ i wr => ∃ k : Nat, k ≤ l.length ∧ i = .int .i64 k ∧ (∀ j, j < k → p j = false) ∧ I k wr) (fun _ _ i _ => l.length - (intOf i).toNat)
  case atStart => exact ⟨0, Nat.zero_le _, rfl, fun j hj => by omega, h0⟩
  case round =>
    obtain ⟨k, hk, rfl, hno, hI⟩ := hrel
    by_cases hlt : k < l.length
    · obtain ⟨b, off, y0, y1, y2, hvv, hb, hys, hc0, hc1, hc2⟩ := dues_cell (HS.out k wr hI) H3.out hlt
      subst hvv
      have hC := HC.out k hlt wr hno hI
      have hda : duesv l[k] = .agg #[iv y0, iv y1, iv y2] := by show aggI l[k] = _; rw [hys]; rfl
      rw [hda] at hC
      have HN := Lib.hid hno
      clear hno
      go_wp2_with fail
      refine hC.mono ?_
      rintro e W1 ⟨rfl, hI1⟩
      have HI := Lib.hid hI1
      clear hI1 hI hC
      cases hp : p k
      · go_wp2_with fail
        go_roundw
        case rel => exact ⟨k + 1, by omega, by go_num, fun j hj => (by by_cases e : j = k; (subst e; exact hp); exact HN.out j (by omega)), HI.out⟩
        case measure => simp [intOf]; omega
      · go_wp2_with fail
        go_returns
        exact ⟨k, by omega, HN.out, .inl ⟨hlt, hp, by simp, HI.out⟩⟩
    · have hkl : k = l.length := by omega
      have HN := Lib.hid hno
      clear hno
      go_wp2_with fail
      go_returns
      exact ⟨k, by omega, HN.out, .inr ⟨hkl, by simp, by subst hkl; exact hI⟩⟩

theorem contD (l : List (List Int)) (v : Value) (fid : Nat) (fst caps : Array Value) (p : Nat → Bool) (I : Nat → World → Prop) (w : World) (h3 : ∀ x ∈ l, x.length = 3) (eg : ∀ args w, (callFunc fid args).run Try.prog w = .ok (.enter fid args) w)
    (hsl : ∀ k W, I k W → DuesAt W v l)
    (hcall : ∀ k (hk : k < l.length) W, (∀ j, j < k → p j = false) → I k W → Calls Try.prog fid (fst.push (duesv l[k]) ++ caps) W (fun e W' => e = .returned (.bool (p k)) ∧ I (k + 1) W')) (h0 : I 0 w) :
    Calls Try.prog 52 #[v, .func (.func fid) fst caps] w (IdxPost l.length p I (fun _ => .bool true) (.bool false)) := by
  have HI := Lib.hid (idxD l v fid fst caps p I w h3 eg hsl hcall h0)
  have hlen := (hsl 0 w h0).len
  clear hsl hcall h0 eg
  go_enter Try.func52, Try.ntmps52
  go_wp2_with fail
  refine HI.out.mono ?_
  clear HI
  rintro e W' ⟨k, hk, hno, ⟨hlt, hp, rfl, hI⟩ | ⟨hkl, rfl, hI⟩⟩
  · have HN := Lib.hid (And.intro hno (And.intro hp hI))
    clear hno hp hI
    go_wp2_with fail
    go_returns
    exact ⟨k, hk, HN.out.1, .inl ⟨hlt, HN.out.2.1, by simp, HN.out.2.2⟩⟩
  · have HN := Lib.hid (And.intro hno (And.intro hkl hI))
    clear hno hkl hI
    go_wp2_with fail
    go_returns
    exact ⟨k, hk, HN.out.1, .inr ⟨HN.out.2.1, by simp, HN.out.2.1 ▸ HN.out.2.2⟩⟩

/-! ### Whether there is a truth -/
def possibleL (l : LedgerD) (out : List Int) : Bool := (duesT l).any (canPay l out)

/-- The ledger at work in whatever state its table is. -/
structure LwOk (W : World) (wb mb : Nat) (l : LedgerD) (tv nv v : Value) : Prop where
  work : LwAt W wb mb l tv nv v (duesT l)
  tab : ∃ T, TabAt spv rv (fun _ => True) W mb T
/-- .. behind 'without': it knows what can have been paid without some notes. -/
structure LwKn (W : World) (wb mb : Nat) (l : LedgerD) (tv nv v : Value) (out : List Int) : Prop where
  work : LwAt W wb mb l tv nv v (duesT l)
  tab : ∃ T, TabAt spv rv (fun _ => True) W mb T ∧ FillT (leftL l out) T (keysTo l.field.weeders.toNat (duesT l) (duesT l).length)

theorem LwKn.ok {W : World} {wb mb : Nat} {l : LedgerD} {tv nv v : Value} {out : List Int} (h : LwKn W wb mb l tv nv v out) : LwOk W wb mb l tv nv v := ⟨h.work, let ⟨T, h1, _⟩ := h.tab; ⟨T, h1⟩⟩
theorem LwKn.below {W W' : World} {wb mb : Nat} {l : LedgerD} {tv nv v : Value} {out : List Int} (h : LwKn W wb mb l tv nv v out) {B : Nat} (hb : Below B W W') (hB : W.heap.size ≤ B) : LwKn W' wb mb l tv nv v out :=
  ⟨h.work.below hb hB, let ⟨T, h1, h2⟩ := h.tab; ⟨T, h1.below hb hB, h2⟩⟩
theorem LwOk.below {W W' : World} {wb mb : Nat} {l : LedgerD} {tv nv v : Value} (h : LwOk W wb mb l tv nv v) {B : Nat} (hb : Below B W W') (hB : W.heap.size ≤ B) : LwOk W' wb mb l tv nv v :=
  ⟨h.work.below hb hB, let ⟨T, h1⟩ := h.tab; ⟨T, h1.below hb hB⟩⟩
theorem LwOk.lt {W : World} {wb mb : Nat} {l : LedgerD} {tv nv v : Value} (h : LwOk W wb mb l tv nv v) : mb < W.heap.size := let ⟨_, h1⟩ := h.tab; h1.lt
theorem LwOk.noCell {W : World} {wb mb : Nat} {l : LedgerD} {tv nv v : Value} (h : LwOk W wb mb l tv nv v) (o : Nat) : W.cell? ⟨mb, o, none⟩ = none := let ⟨_, h1⟩ := h.tab; h1.noCell o

/-- What checked has shown, but whether all dues can be paid. -/
theorem duesT_three (l : LedgerD) : ∀ x ∈ duesT l, x.length = 3 := duesTo_three l _
theorem duesT_bd {l : LedgerD} (hS : SoundL l) {d : List Int} (hd : d ∈ duesT l) (i : Nat) (hi : i < 3) : 0 ≤ d.getD i 0 ∧ d.getD i 0 ≤ 350 := by
  obtain ⟨t, ht, rfl⟩ := mem_duesT.1 hd
  have hF := soundF_of hS.field
  have := truthsF_len ht
  exact duesV_bd (by have := hS.rate; omega) (by have := hS.rate; omega) t (by have := hF.rows1; omega) i hi

theorem look_of {l : LedgerD} {out : List Int} {T : List ((Int × Int) × Rng)} (hF : FillT (leftL l out) T (keysTo l.field.weeders.toNat (duesT l) (duesT l).length)) {d : List Int} (hd : d ∈ duesT l) {i : Nat} (hi : i < l.field.weeders.toNat) :
    TB.look ((i : Int), d.getD i 0) T = some ((alone l out d).getD i (0, 0)) := by
  obtain ⟨r, hr⟩ := hF.has ((i : Int), d.getD i 0) (by
    unfold keysTo
    rw [List.take_length, List.mem_flatMap]
    exact ⟨d, hd, List.mem_map.2 ⟨i, List.mem_range.2 hi, rfl⟩⟩)
  rw [hr, hF.only _ _ hr, kn_known, alone_get _ _ _ hi]

theorem alone_bd {l : LedgerD} (hS : SoundL l) (out : List Int) {d : List Int} (hd : d ∈ duesT l) : ∀ r ∈ alone l out d, 0 ≤ r.1 ∧ r.1 ≤ 2000 ∧ 0 ≤ r.2 ∧ r.2 ≤ 2000 := by
  intro r hr
  obtain ⟨i, hi, rfl⟩ := List.mem_map.1 hr
  have hF := soundF_of hS.field
  have := hF.weed1
  have hi' := List.mem_range.1 hi
  have hb := duesT_bd hS hd i (by omega)
  have := known_bd hS out i hb.1 (by omega)
  omega

theorem paid_at {l : LedgerD} (hS : SoundL l) {tv nv v : Value} {out : List Int} {wb mb : Nat} {d : List Int} (hd : d ∈ duesT l) {w : World} (hw : LwKn w wb mb l tv nv v out) :
    Calls Try.prog 31 #[.pointer (some ⟨wb, 0, none⟩), aggI d] w (PaidPost l out d w) := by
  obtain ⟨T, hT, hF⟩ := hw.tab
  exact paid_any l (soundF_of hS.field) (by have := hS.box; omega) tv nv v out d (duesT_three l d hd) (alone l out d) rfl (alone_bd hS out hd) wb mb T w hw.work.cells hT (fun i hi => look_of hF hd hi)

theorem poss1_any {l : LedgerD} (hS : SoundL l) {tv nv v : Value} {out : List Int} {wb mb bp : Nat} {d : List Int} (hd : d ∈ duesT l) {w : World} (hw : LwKn w wb mb l tv nv v out) (hp : w.heap[bp]? = some (.cells #[.pointer (some ⟨wb, 0, none⟩)] 64 (0, 0))) :
    Calls Try.prog 53 #[aggI d, .pointer (some ⟨bp, 0, none⟩)] w (PV (.bool (canPay l out d)) w) := by
  obtain ⟨y0, y1, y2, hys⟩ := three_of (duesT_three l d hd)
  have hag : aggI d = .agg #[iv y0, iv y1, iv y2] := by rw [hys]; rfl
  have HP := Lib.hid (fun W hW => hag ▸ paid_at (w := W) hS hd (hw.below (B := w.heap.size) hW (Nat.le_refl _)))
  rw [hag]
  obtain ⟨c1, f1, l1⟩ := cells_of_block hp
  obtain ⟨q, hq⟩ : ∃ q, canPay l out d = q := ⟨_, rfl⟩
  have HQ := Lib.hid hq
  clear hw hp hag hys hq
  go_enter Try.func53, Try.ntmps53
  go_wp2_with fail
  refine (HP.out _ (bgoAlloc (Below.refl _ _) _)).mono ?_
  rintro e w' ⟨hb, ⟨hc, u, rfl, hu⟩ | ⟨hc, rfl⟩⟩
  · have hq : q = true := by rw [← HQ.out, hc]
    obtain ⟨uo, uc, rfl⟩ := owns_slice hu
    have HB := Lib.hid (bgo (bgoAlloc (Below.refl w.heap.size w) (.cells #[iv y0, iv y1, iv y2] 79)) hb)
    have HE := Lib.hid (And.intro hc hq)
    clear hb hc hu hq
    go_wp2_with fail
    go_returns
    exact ⟨by rw [HE.out.1]; simp, HB.out⟩
  · have HB := Lib.hid (bgo (bgoAlloc (Below.refl w.heap.size w) (.cells #[iv y0, iv y1, iv y2] 79)) hb)
    have HE := Lib.hid hc
    clear hb hc
    go_wp2_with fail
    go_returns
    exact ⟨by rw [HE.out]; simp, HB.out⟩

theorem possible_any {l : LedgerD} (hS : SoundL l) {tv nv v ov : Value} (out : List Int) {wb mb : Nat} {w : World} (hw : LwOk w wb mb l tv nv v) (ho : IntsAt w ov out) :
    Calls Try.prog 30 #[.pointer (some ⟨wb, 0, none⟩), ov] w (fun e w' => e = .returned (.bool (possibleL l out)) ∧ LwKn w' wb mb l tv nv v out ∧ Ext [mb] w w') := by
  obtain ⟨T0, hT0⟩ := hw.tab
  obtain ⟨oo, oc, rfl⟩ := ho.open
  obtain ⟨vo, vc, rfl⟩ := hw.work.truth.open
  have hF := soundF_of hS.field
  have hlen : (duesT l).length ≤ 2500 := Nat.le_trans (duesTo_len l _) (truthsF_count hF [])
  have hBA : Below w.heap.size w (w.alloc (.cells #[.pointer (some ⟨wb, 0, none⟩)] 64)) := bgoAlloc (Below.refl _ _) _
  have HWO := Lib.hid (without_any l hF hS.many tv nv _ _ out wb mb (duesT l) T0 _ (hw.work.below hBA (Nat.le_refl _)) (hT0.below hBA (Nat.le_refl _)) (ho.below hBA (Nat.le_refl _)) (duesT_three l) hlen)
  have hmb := hT0.lt
  have hwb := hw.work.lt
  have HW := Lib.hid (And.intro (hw.work.below hBA (Nat.le_refl _)) (hT0.below hBA (Nat.le_refl _)))
  have HS := Lib.hid hS
  obtain ⟨q, hq⟩ : ∃ q, possibleL l out = q := ⟨_, rfl⟩
  rw [hq]
  have HQ := Lib.hid hq
  have hbp := heap_new0 w (.cells #[.pointer (some ⟨wb, 0, none⟩)] 64)
  have HBP := Lib.hid hbp
  clear hw ho hT0 hq hS hbp hBA
  go_enter Try.func30, Try.ntmps30
  go_wp2_with fail
  refine HWO.out.mono ?_
  rintro e W1 ⟨⟨u, rfl⟩, hE, T, hT, hFl⟩
  have hbp1 := (hE.block w.heap.size (by simp) (by simp; omega)).trans HBP.out
  have hwk1 := HW.out.1.table hE HW.out.2.noCell
  have hKn : LwKn W1 wb mb l tv nv (.slice vo (duesT l).length vc) out := ⟨hwk1, T, hT, hFl⟩
  have hEw : Ext [mb] w W1 := (Ext.of_below (bgoAlloc (Below.refl _ _) _)).trans hE
  have HC := Lib.hid (contD (duesT l) (.slice vo (duesT l).length vc) 53 #[] #[.pointer (some ⟨w.heap.size, 0, none⟩)] (fun k => canPay l out ((duesT l).getD k [])) (fun _ W => Below W1.heap.size W1 W) W1 (duesT_three l)
    (enters_of Try.func53 (by kernel_rfl) rfl) (fun k W hW => hwk1.truth.below hW (Nat.le_refl _))
    (fun k hk W _ hW => by
      have hg : (duesT l).getD k [] = (duesT l)[k] := by simp [List.getD, hk]
      rw [hg]
      refine (poss1_any HS.out (List.getElem_mem hk) (hKn.below hW (Nat.le_refl _)) ((hW.block _ (Array.getElem?_eq_some_iff.1 hbp1).1).trans hbp1)).mono ?_
      rintro e W' ⟨rfl, hb⟩
      exact ⟨rfl, bgo hW hb⟩) (Below.refl _ _))
  obtain ⟨c1, f1, l1⟩ := cells_of_block hbp1
  obtain ⟨c2, f2, l2⟩ := cells_of_block hwk1.cells
  have HX := Lib.hid (And.intro hKn hEw)
  clear hE hT hFl hbp1 hwk1 hKn hEw
  obtain ⟨ls, hls⟩ : ∃ ls, duesT l = ls := ⟨_, rfl⟩
  rw [hls] at HC c2
  have HLS := Lib.hid hls
  clear hls
  go_wp2_with fail
  refine HC.out.mono ?_
  rintro e W2 ⟨k, hk, hno, ⟨hlt, hp, rfl, hB⟩ | ⟨hkl, rfl, hB⟩⟩
  · have hqt : q = true := by
      rw [← HQ.out]
      unfold possibleL
      rw [HLS.out, List.any_eq_true]
      exact ⟨ls.getD k [], by rw [show ls.getD k [] = ls[k] from by simp [List.getD, hlt]]; exact List.getElem_mem _, hp⟩
    have HF := Lib.hid (And.intro hqt hB)
    clear hno hp hB hqt
    go_wp2_with fail
    go_returns
    exact ⟨by rw [HF.out.1]; simp, HX.out.1.below HF.out.2 (Nat.le_refl _), HX.out.2.trans (Ext.of_below HF.out.2)⟩
  · have hqf : q = false := by
      rw [← HQ.out]
      unfold possibleL
      rw [HLS.out, List.any_eq_false]
      intro x hx
      obtain ⟨j, hj, rfl⟩ := List.getElem_of_mem hx
      have := hno j (by omega)
      simp only at this
      rw [show ls.getD j [] = ls[j] from by simp [List.getD, hj]] at this
      simp [this]
    have HF := Lib.hid (And.intro hqf hB)
    clear hno hB hqf
    go_wp2_with fail
    go_returns
    exact ⟨by rw [HF.out.1]; simp, HX.out.1.below HF.out.2 (Nat.le_refl _), HX.out.2.trans (Ext.of_below HF.out.2)⟩

end Go.Proofs.Ytechgmnkcijahaa

namespace Go.Proofs.Ytechgmnkcijahaa
open Go.RowKit Go.RG Go.SL Go.Shelf Cou Go.TB
set_option maxHeartbeats 400000
set_option maxRecDepth 10000

def argsB (l : LedgerD) : Bool := inB l.rate 1 50 && (amountsB l.box && l.notes.all (noteB l))
def faultW (l : LedgerD) : Int := if 5 < l.notes.length then 3 else if askFErr l.field true ≠ 0 then askFErr l.field true else if argsB l = false then 1 else if possibleL l (upto l.notes.length) = false then 9 else 0

theorem soundL_of {l : LedgerD} (h1 : ¬ 5 < l.notes.length) (h2 : askFErr l.field true = 0) (h3 : argsB l = true) : SoundL l := by
  have hf : faultF l.field = 0 := by
    unfold askFErr at h2
    split at h2
    · omega
    · rename_i h; omega
  obtain ⟨hS, hpos, _⟩ := ask_sound h2
  simp only [argsB, inB, amountsB, Bool.and_eq_true, decide_eq_true_eq, List.all_eq_true] at h3
  obtain ⟨⟨r1, r2⟩, ⟨b1, ⟨b2, b3⟩, b4, b5⟩, hn⟩ := h3
  refine ⟨hf, fun e => by rw [e] at hpos; simp at hpos, ⟨r1, r2⟩, ⟨by omega, by omega, by omega⟩, by omega, fun x hx => ?_⟩
  have := hn x hx
  simp only [noteB, inB, amountsB, Bool.and_eq_true, decide_eq_true_eq] at this
  omega

def evTo (n k : Nat) : List Int := (List.range n).map fun (i : Nat) => if i < k then (i : Int) else 0
theorem evTo_zero (n : Nat) : evTo n 0 = List.replicate n 0 := by
  unfold evTo
  simp only [Nat.not_lt_zero, if_false]
  rw [List.map_const', List.length_range]
theorem evTo_all (n : Nat) : evTo n n = upto n := by
  unfold evTo upto
  apply List.map_congr_left
  intro i hi
  rw [if_pos (List.mem_range.1 hi)]
theorem evTo_set {n k : Nat} (_hk : k < n) : (evTo n k).set k (k : Int) = evTo n (k + 1) := by
  refine List.ext_getElem (by simp [evTo]) fun i h1 h2 => ?_
  rw [List.getElem_set]
  simp only [evTo, List.getElem_map, List.getElem_range]
  by_cases e : k = i
  · subst e; simp
  · rw [if_neg e]
    by_cases h : i < k
    · rw [if_pos h, if_pos (by omega)]
    · rw [if_neg h, if_neg (by omega)]
theorem evTo_len (n k : Nat) : (evTo n k).length = n := by simp [evTo]

def CheckedPost (l : LedgerD) (tv nv : Value) (w : World) (e : Ending) (w' : World) : Prop :=
  Below w.heap.size w w' ∧ ((faultW l ≠ 0 ∧ e = .returned (.tuple #[.pointer none, iv (faultW l)])) ∨
    (faultW l = 0 ∧ ∃ (wb mb : Nat) (v : Value), e = .returned (.tuple #[.pointer (some ⟨wb, 0, none⟩), iv 0]) ∧ w.heap.size ≤ wb ∧ w.heap.size ≤ mb ∧ LwOk w' wb mb l tv nv v))

set_option maxHeartbeats 1600000 in
theorem checked_any (l : LedgerD) (tv nv : Value) (w : World) (ht : TalliesAt w tv l.field.tallies) (hn : TriplesAt w nv l.notes) :
    Calls Try.prog 28 #[lv l tv nv] w (CheckedPost l tv nv w) := by
  obtain ⟨on, cn, rfl⟩ := hn.open
  obtain ⟨ot, ct, rfl⟩ := ht.open
  have hnl := hn.len
  have HN := Lib.hid hn
  have HT := Lib.hid ht
  clear hn ht
  by_cases h5 : 5 < l.notes.length
  · have HF : Hid (faultW l = 3) := Lib.hid (by unfold faultW; rw [if_pos h5])
    have h5I : (l.notes.length : Int) > 5 := by omega
    go_enter Try.func28, Try.ntmps28
    go_wp2_with fail
    go_returns
    exact ⟨(by repeat (first | exact Below.refl _ _ | assumption | refine bgo ?_ (by assumption) | refine bgoAlloc ?_ _ | refine bgoDrew ?_ | refine bgoSet ?_ (by simp; omega) _)), .inl ⟨by rw [HF.out]; simp, by rw [HF.out]; simp⟩⟩
  have h5I : ¬ ((l.notes.length : Int) > 5) := by omega
  have hW : faultW l = if askFErr l.field true ≠ 0 then askFErr l.field true else if argsB l = false then 1 else if possibleL l (upto l.notes.length) = false then 9 else 0 := by unfold faultW; rw [if_neg h5]
  have HD := Lib.hid (fun w ht => wDone_any l.field (.slice ot l.field.tallies.length ct) w ht)
  obtain ⟨q, hq⟩ : ∃ q, askFErr l.field true = q := ⟨_, rfl⟩
  rw [hq] at hW
  by_cases hq0 : q = 0
  case neg =>
    have HF : Hid (faultW l = q ∧ q ≠ 0 ∧ askFErr l.field true = q) := Lib.hid ⟨by rw [hW, if_pos hq0], hq0, hq⟩
    have hqb : (q != 0) = true := by simpa using hq0
    clear hW hq hq0
    go_enter Try.func28, Try.ntmps28
    go_wp2_with fail
    refine (HD.out _ (HT.out.alloc _)).mono ?_
    rintro e w1 ⟨hb, ⟨hne, rfl⟩ | ⟨h0, _⟩⟩
    · have HB := Lib.hid (show Below w.heap.size w w1 from (by repeat (first | exact Below.refl _ _ | assumption | refine bgo ?_ (by assumption) | refine bgoAlloc ?_ _ | refine bgoDrew ?_ | refine bgoSet ?_ (by simp; omega) _)))
      rw [HF.out.2.2]
      clear hb hne
      go_wp2_with fail
      go_returns
      exact ⟨HB.out, .inl ⟨by rw [HF.out.1]; exact HF.out.2.1, by rw [HF.out.1]; simp⟩⟩
    · exact absurd (HF.out.2.2.symm.trans h0) HF.out.2.1
  rw [if_neg (by rw [hq0]; simp)] at hW
  rw [hq0] at hq
  have HW := Lib.hid hW
  have hwd : -1000 ≤ l.field.weeders ∧ l.field.weeders ≤ 1000 := by
    have hF0 : faultF l.field = 0 := by
      unfold askFErr at hq
      by_cases h : faultF l.field = 0
      · exact h
      · rw [if_pos h] at hq; exact hq
    have := soundF_of hF0
    have := this.weed0
    have := (soundF_of hF0).weed1
    omega
  have HQ := Lib.hid hq
  clear hW hq hq0
  obtain ⟨r1, hr1⟩ : ∃ r1, inB l.rate 1 50 = r1 := ⟨_, rfl⟩
  obtain ⟨r2, hr2⟩ : ∃ r2, amountsB l.box = r2 := ⟨_, rfl⟩
  obtain ⟨r3, hr3⟩ : ∃ r3, l.notes.all (noteB l) = r3 := ⟨_, rfl⟩
  have hargs : argsB l = (r1 && (r2 && r3)) := by unfold argsB; rw [hr1, hr2, hr3]
  have H1 := Lib.hid (fun w => hr1 ▸ gwithin_any l.rate 1 50 w)
  have H2 := Lib.hid (fun w => hr2 ▸ amounts_any l.box w)
  have H3 := Lib.hid (fun (W : World) (hB : Below w.heap.size w W) =>
    hr3 ▸ allN_pure l.notes (.slice on l.notes.length cn) 46 #[lv l (.slice ot l.field.tallies.length ct) (.slice on l.notes.length cn)] #[] (noteB l) W (HN.out.below hB (Nat.le_refl _)) (enters_of Try.func46 (by kernel_rfl) rfl) (fun x _ W' _ => note_any l _ _ x W' hwd.1 hwd.2))
  have HA := Lib.hid hargs
  clear hargs hr1 hr2 hr3
  go_enter Try.func28, Try.ntmps28
  go_wp2_with fail
  refine (HD.out _ (HT.out.alloc _)).mono ?_
  rintro e w1 ⟨hb, ⟨hne, _⟩ | ⟨_, u, rfl, hu⟩⟩
  · exact absurd HQ.out hne
  obtain ⟨uo, uc, rfl⟩ := hu.open
  obtain ⟨hc, hf⟩ := bcell hb
  have hz0 : w.heap.size < w1.heap.size := by have := hb.size; simp at this; omega
  have hk1 := (hb.block w.heap.size (by simp)).trans (heap_new0 w (.cells (lcells l (.slice ot l.field.tallies.length ct) (.slice on l.notes.length cn)) 34))
  have HB1 := Lib.hid (And.intro (show Below w.heap.size w w1 from (by repeat (first | exact Below.refl _ _ | assumption | refine bgo ?_ (by assumption) | refine bgoAlloc ?_ _ | refine bgoDrew ?_ | refine bgoSet ?_ (by simp; omega) _))) hk1)
  clear hb hu hk1
  go_wp2_with fail
  refine (H1.out _).mono ?_
  rintro e w2 ⟨rfl, hb⟩
  have hk2 := (hb.block _ hz0).trans HB1.out.2
  have HB2 := Lib.hid (And.intro (bgo HB1.out.1 hb) hk2)
  obtain ⟨c2, f2, l2⟩ := cells_of_block hk2
  clear hb hk2 hc hf hz0
  cases r1
  · have hF : faultW l = 1 := by rw [HW.out, HA.out]; rfl
    have HF := Lib.hid hF
    clear hF
    go_wp2_with fail
    go_returns
    exact ⟨HB2.out.1, .inl ⟨by rw [HF.out]; simp, by rw [HF.out]; simp⟩⟩
  go_wp2_with fail
  refine (H2.out _).mono ?_
  rintro e w3 ⟨rfl, hb⟩
  have hk3 := (hb.block _ l2).trans HB2.out.2
  have HB3 := Lib.hid (And.intro (bgo HB2.out.1 hb) hk3)
  obtain ⟨c3, f3, l3⟩ := cells_of_block hk3
  clear hb hk3 c2 f2 l2
  cases r2
  · have hF : faultW l = 1 := by rw [HW.out, HA.out]; rfl
    have HF := Lib.hid hF
    clear hF
    go_wp2_with fail
    go_returns
    exact ⟨HB3.out.1, .inl ⟨by rw [HF.out]; simp, by rw [HF.out]; simp⟩⟩
  go_wp2_with fail
  refine (H3.out _ HB3.out.1).mono ?_
  rintro e w4 ⟨rfl, hb⟩
  have hk4 := (hb.block _ l3).trans HB3.out.2
  have HB4 := Lib.hid (And.intro (bgo HB3.out.1 hb) hk4)
  obtain ⟨c4, f4, l4⟩ := cells_of_block hk4
  clear hb hk4 c3 f3 l3
  cases r3
  · have hF : faultW l = 1 := by rw [HW.out, HA.out]; rfl
    have HF := Lib.hid hF
    clear hF
    go_wp2_with fail
    go_returns
    exact ⟨HB4.out.1, .inl ⟨by rw [HF.out]; simp, by rw [HF.out]; simp⟩⟩
  have hS : SoundL l := soundL_of h5 HQ.out (by rw [HA.out]; rfl)
  have hW : faultW l = if possibleL l (upto l.notes.length) = false then 9 else 0 := by rw [HW.out, HA.out]; rfl
  have HS := Lib.hid hS
  have HW' := Lib.hid hW
  clear hS hW
  go_wp2_with fail
  refine (gwork_any l _ _ HS.out.field (by have := HS.out.rate; omega) (by have := HS.out.rate; omega) w4 (HT.out.below HB4.out.1 (Nat.le_refl _)) (HN.out.below HB4.out.1 (Nat.le_refl _))).mono ?_
  rintro e w5 ⟨wb, mb, v, rfl, hwb, hmb, htab, hlw, hb⟩
  have hk5 := (hb.block _ l4).trans HB4.out.2
  have hok5 : LwOk w5 wb mb l (.slice ot l.field.tallies.length ct) (.slice on l.notes.length cn) v := ⟨hlw, [], new_tab htab⟩
  have hs4 := HB4.out.1.size
  have HB5 := Lib.hid (And.intro (bgo HB4.out.1 hb) (And.intro hk5 hok5))
  obtain ⟨c5, f5, l5⟩ := cells_of_block hk5
  obtain ⟨n, hn⟩ : ∃ n, l.notes.length = n := ⟨_, rfl⟩
  have hmk := make_ints n (by omega)
  rw [hn] at HW' c5
  have HNE := Lib.hid hn
  have hn5 : n ≤ 5 := by omega
  clear hb hk5 hlw htab c4 f4 l4 hok5 hn
  go_upto_region 11 with (fail)
  refine gworld fun W6 hW6 => ?_
  have hB6 : Below w5.heap.size w5 W6 := by rw [hW6]; exact bgoAlloc (Below.refl _ _) _
  have hk6 : W6.heap[w5.heap.size]? = some (.cells (intCells (evTo n 0)).toArray 3 (0, 0)) := by rw [hW6, evTo_zero]; exact heap_new0 _ _
  have H6 := Lib.hid (And.intro hB6 hk6)
  clear hW6 hB6 hk6 hmk c5 f5 l5
  go_wp2_with fail
  go_loopw [50] (fun u wr => ∃ k : Nat, k ≤ n ∧ u = .int .i64 k ∧ wr.heap[w5.heap.size]? = some (.cells (intCells (evTo n k)).toArray 3 (0, 0)) ∧ Below w5.heap.size w5 wr) (fun u _ => n - (intOf u).toNat)
  case atStart => exact ⟨0, Nat.zero_le _, rfl, H6.out.2, H6.out.1⟩
  case round =>
    obtain ⟨k, hk, rfl, hcb, hB⟩ := hrel
    by_cases hlt : k < n
    · have hcell := cell_of_ints hcb (show k < (evTo n k).length by rw [evTo_len]; exact hlt)
      generalize (evTo n k)[k]'(by rw [evTo_len]; exact hlt) = x at hcell
      have hlb := World.block_lt_of_cell? wr _ hcell
      have hfr := frozen_of_block hcb k
      have HX := Lib.hid (And.intro hcb hB)
      clear hcb hB
      go_wp2_with fail
      go_roundw
      case rel =>
        refine ⟨k + 1, by omega, by go_num, ?_, bgoSet HX.out.2 (Nat.le_refl _) _⟩
        rw [← evTo_set hlt, ← set_ints]
        exact set_block HX.out.1 _
      case measure => simp [intOf]; omega
    · have hkn : k = n := by omega
      subst hkn
      rw [evTo_all] at hcb
      have hiv : IntsAt wr (.slice (some ⟨w5.heap.size, 0, none⟩) k k) (upto k) := by
        have hul : (upto k).length = k := by simp [upto]
        have := SlAt.of_block (w := wr) (cs := (intCells (upto k)).toArray) 1 k hcb (by simp [intCells, hul]) (by simp only [maxLen]; omega)
        show SlAt 1 _ _ (upto k).length _
        rw [hul]
        exact this
      have HP := Lib.hid (possible_any HS.out (upto k) (HB5.out.2.2.below hB (Nat.le_refl _)) hiv)
      have HX := Lib.hid hB
      obtain ⟨q, hq⟩ : ∃ q, possibleL l (upto k) = q := ⟨_, rfl⟩
      rw [hq] at HP HW'
      clear hcb hB hiv hq
      go_wp2_with fail
      refine HP.out.mono ?_
      rintro e w7 ⟨rfl, hkn, hE⟩
      have hB7 : Below w.heap.size w w7 := by
        have h1 := bgo HB5.out.1 (HX.out)
        exact below_of_ext h1 hE (by omega)
      have HX7 := Lib.hid (And.intro hkn.ok hB7)
      clear hkn hE hB7
      cases q
      · have HF := Lib.hid HW'.out
        go_wp2_with fail
        go_returns
        exact ⟨HX7.out.2, .inl ⟨by rw [HF.out]; simp, by rw [HF.out]; simp⟩⟩
      · have HF := Lib.hid HW'.out
        go_wp2_with fail
        go_returns
        exact ⟨HX7.out.2, .inr ⟨by rw [HF.out]; rfl, wb, mb, v, by simp, by omega, by omega, HX7.out.1⟩⟩

end Go.Proofs.Ytechgmnkcijahaa

namespace Go.Proofs.Ytechgmnkcijahaa
open Go.RowKit Go.RG Go.SL Go.Shelf Cou Go.TB
set_option maxHeartbeats 400000
set_option maxRecDepth 10000

theorem CheckLedger_any (l : LedgerD) (tv nv : Value) (w : World) (ht : TalliesAt w tv l.field.tallies) (hn : TriplesAt w nv l.notes) :
    Calls Try.prog 18 #[lv l tv nv] w (PV (iv (faultW l)) w) := by
  have HC := Lib.hid (checked_any l tv nv (w.alloc (.cells (lcells l tv nv) 34)) (ht.alloc _) (hn.alloc _))
  obtain ⟨q, hq⟩ : ∃ q, faultW l = q := ⟨_, rfl⟩
  rw [hq]
  have HQ := Lib.hid hq
  clear ht hn hq
  go_enter Try.func18, Try.ntmps18
  go_wp2_with fail
  refine HC.out.mono ?_
  rintro e w1 ⟨hb, ⟨hne, rfl⟩ | ⟨h0, wb, mb, v, rfl, _, _, hok⟩⟩
  · have HB := Lib.hid (show Below w.heap.size w w1 from (by repeat (first | exact Below.refl _ _ | assumption | refine bgo ?_ (by assumption) | refine bgoAlloc ?_ _ | refine bgoDrew ?_ | refine bgoSet ?_ (by simp; omega) _)))
    rw [HQ.out]
    clear hb hne
    go_wp2_with fail
    go_returns
    exact ⟨by simp, HB.out⟩
  · have HB := Lib.hid (show Below w.heap.size w w1 from (by repeat (first | exact Below.refl _ _ | assumption | refine bgo ?_ (by assumption) | refine bgoAlloc ?_ _ | refine bgoDrew ?_ | refine bgoSet ?_ (by simp; omega) _)))
    have hq0 : q = 0 := HQ.out.symm.trans h0
    have HQ0 := Lib.hid hq0
    clear hb hok h0 hq0
    go_wp2_with fail
    go_returns
    exact ⟨by rw [HQ0.out]; simp, HB.out⟩

theorem faultW_sound {l : LedgerD} (h : faultW l = 0) : SoundL l ∧ possibleL l (upto l.notes.length) = true := by
  unfold faultW at h
  split at h
  · omega
  · rename_i h1
    split at h
    · omega
    · rename_i h2
      split at h
      · omega
      · rename_i h3
        split at h
        · omega
        · rename_i h4
          exact ⟨soundL_of h1 (by omega) (by simpa using h3), by simpa using h4⟩

def dueErr (l : LedgerD) (rows : List Int) : Int := if faultW l ≠ 0 then faultW l else if proveTruthB l.field rows = false then 2 else 0
def dueV (l : LedgerD) (rows : List Int) : List Int := (duesV l.rate rows).take l.field.weeders.toNat
def DuePost (l : LedgerD) (rows : List Int) (w : World) (e : Ending) (w' : World) : Prop :=
  Below w.heap.size w w' ∧ ((dueErr l rows ≠ 0 ∧ e = .returned (.tuple #[.slice none 0 0, iv (dueErr l rows)])) ∨ (dueErr l rows = 0 ∧ ∃ v, e = .returned (.tuple #[v, iv 0]) ∧ IntsAt w' v (dueV l rows)))

theorem slice_dues (g n : Nat) (h1 : 1 ≤ n) (h3 : n ≤ 3) (W : World) :
    (Instr.sliceAt 79 (.pointer (some ⟨g, 0, none⟩)) none (some (iv (n : Int))) none).run Try.prog W = .ok (.slice (some ⟨g, 0, none⟩) n 3) W := by
  have hl : Try.prog.arrayLen 79 = 3 := by kernel_rfl
  have h := run_sliceAt_array_h (P := Try.prog) W 79 ⟨g, 0, none⟩ (by kernel_rfl) .i64 (n : Int) (by omega) (by rw [hl]; omega)
  have hs : (sizeOf (Try.prog.elem 79)).run Try.prog W = .ok 1 W := by kernel_rfl
  rw [h, hs, hl]
  simp [slicedAt, Addr.add]

theorem proveTruth_bd {f : FieldD} {l : List Int} (h : proveTruthB f l = true) : faultF f = 0 ∧ (l.length : Int) = f.rows ∧ (∀ x ∈ l, -1 ≤ x ∧ x < f.weeders) ∧ rightF f [] l = true := by
  unfold proveTruthB at h
  simp only [Bool.and_eq_true, decide_eq_true_eq, List.all_eq_true] at h
  obtain ⟨h1, h2, h3, h4⟩ := h
  have hS := soundF_of h1
  have := hS.weed0
  refine ⟨h1, h2, fun x hx => ?_, h4⟩
  have := h3 x hx
  simp only [saysB, inB, Bool.or_eq_true, beq_iff_eq, Bool.and_eq_true, decide_eq_true_eq] at this
  omega

theorem Due_any (l : LedgerD) (tv nv rvv : Value) (rows : List Int) (w : World) (ht : TalliesAt w tv l.field.tallies) (hn : TriplesAt w nv l.notes) (hr : IntsAt w rvv rows) :
    Calls Try.prog 15 #[lv l tv nv, rvv] w (DuePost l rows w) := by
  obtain ⟨ro, rc, rfl⟩ := hr.open
  have HC := Lib.hid (CheckLedger_any l tv nv (w.alloc (.cells (lcells l tv nv) 34)) (ht.alloc _) (hn.alloc _))
  have HT := Lib.hid ht
  have HR := Lib.hid hr
  clear ht hn hr
  obtain ⟨q, hq⟩ : ∃ q, faultW l = q := ⟨_, rfl⟩
  rw [hq] at HC
  by_cases hq0 : q = 0
  case neg =>
    have HF : Hid (dueErr l rows = q ∧ q ≠ 0) := Lib.hid ⟨by unfold dueErr; rw [hq, if_pos hq0], hq0⟩
    have hqb : (q != 0) = true := by simpa using hq0
    clear hq hq0
    go_enter Try.func15, Try.ntmps15
    go_wp2_with fail
    refine HC.out.mono ?_
    rintro e w1 ⟨rfl, hb⟩
    go_wp2_with fail
    go_returns
    exact ⟨(by repeat (first | exact Below.refl _ _ | assumption | refine bgo ?_ (by assumption) | refine bgoAlloc ?_ _ | refine bgoDrew ?_ | refine bgoSet ?_ (by simp; omega) _)), .inl ⟨by rw [HF.out.1]; exact HF.out.2, by rw [HF.out.1]; simp⟩⟩
  subst hq0
  obtain ⟨hS, _⟩ := faultW_sound hq
  have hSF := soundF_of hS.field
  obtain ⟨p, hp⟩ : ∃ p, proveTruthB l.field rows = p := ⟨_, rfl⟩
  have HD : Hid (dueErr l rows = if p = false then 2 else 0) := Lib.hid (by unfold dueErr; rw [hq, if_neg (by simp), hp])
  have HP := Lib.hid (fun (W : World) (hB : Below w.heap.size w W) => hp ▸ wProveTruth_any l.field tv (.slice ro rows.length rc) rows W (HT.out.below hB (Nat.le_refl _)) (HR.out.below hB (Nat.le_refl _)))
  have HPE := Lib.hid hp
  have HS := Lib.hid hS
  have hw0 := hSF.weed0
  have hw3 := hSF.weed1
  have hr7 := hSF.rows1
  clear hq hS hSF hp
  go_enter Try.func15, Try.ntmps15
  go_wp2_with fail
  refine HC.out.mono ?_
  rintro e w1 ⟨rfl, hb⟩
  have hz0 : w.heap.size < w1.heap.size := by have := hb.size; simp at this; omega
  have hk1 := (hb.block w.heap.size (by simp)).trans (heap_new0 w (.cells (lcells l tv nv) 34))
  have HB1 := Lib.hid (And.intro (show Below w.heap.size w w1 from (by repeat (first | exact Below.refl _ _ | assumption | refine bgo ?_ (by assumption) | refine bgoAlloc ?_ _ | refine bgoDrew ?_ | refine bgoSet ?_ (by simp; omega) _))) hk1)
  obtain ⟨c1, f1, l1⟩ := cells_of_block hk1
  clear hb hk1
  go_wp2_with fail
  refine (HP.out w1 HB1.out.1).mono ?_
  rintro e w2 ⟨rfl, hb⟩
  have hk2 := (hb.block _ hz0).trans HB1.out.2
  have HB2 := Lib.hid (And.intro (bgo HB1.out.1 hb) hk2)
  obtain ⟨c2, f2, l2⟩ := cells_of_block hk2
  clear hb hk2 c1 f1 l1 hz0
  cases p
  · have hF : dueErr l rows = 2 := by rw [HD.out]; rfl
    have HF := Lib.hid hF
    clear hF
    go_wp2_with fail
    go_returns
    exact ⟨HB2.out.1, .inl ⟨by rw [HF.out]; simp, by rw [HF.out]; simp⟩⟩
  have hF : dueErr l rows = 0 := by rw [HD.out]; rfl
  have HF := Lib.hid hF
  obtain ⟨_, hlen, hx, _⟩ := proveTruth_bd HPE.out
  have hdues := dues_any l tv nv _ rows w2 (HR.out.below HB2.out.1 (Nat.le_refl _)) (by have := HS.out.rate; omega) (by have := HS.out.rate; omega) (by omega) (fun x hx' => by have := hx x hx'; omega)
  obtain ⟨y0, y1, y2, hys⟩ := three_of (duesV_len l.rate rows)
  rw [hys] at hdues
  have hdues' : Calls Try.prog 34 #[lv l tv nv, .slice ro rows.length rc] w2 (fun e w' => e = .returned (.agg #[iv y0, iv y1, iv y2]) ∧ Below w2.heap.size w2 w' ∧ w2.heap.size < w'.heap.size) := hdues
  obtain ⟨n, hn⟩ : ∃ n : Nat, l.field.weeders = n := ⟨l.field.weeders.toNat, by omega⟩
  have hn1 : 1 ≤ n := by omega
  have hn3 : n ≤ 3 := by omega
  have hdl : dueV l rows = [y0, y1, y2].take n := by unfold dueV; rw [hys, hn]; rfl
  have HDU := Lib.hid hdues'
  have HDL := Lib.hid hdl
  have HN := Lib.hid hn
  clear hF hlen hx hdues hdues' hdl hys hn hw0 hw3
  go_wp2_with fail
  refine HDU.out.mono ?_
  rintro e w3 ⟨rfl, hb, _⟩
  have hk3 := (hb.block _ l2).trans HB2.out.2
  have hl3 := Nat.lt_of_lt_of_le l2 hb.size
  have hsl := slice_dues w3.heap.size n hn1 hn3
  have HB3 := Lib.hid (And.intro (bgo HB2.out.1 hb) hk3)
  obtain ⟨c3, f3, l3⟩ := cells_of_block (show w3.heap[w.heap.size]? = some (.cells #[iv l.field.rows, iv (n : Int), iv l.field.left.1, iv l.field.left.2, tv, iv l.rate, iv l.box.1, iv l.box.2, nv] 34 (0, 0)) by rw [hk3]; unfold lcells; rw [HN.out])
  clear hb hk3 c2 f2
  go_wp2_with fail
  have hk4 : (w3.alloc (.cells #[iv y0, iv y1, iv y2] 79)).heap[w3.heap.size]? = some (.cells #[iv y0, iv y1, iv y2] 79 (0, 0)) := heap_new0 _ _
  have htl : ([y0, y1, y2].take n).length = n := by rw [List.length_take]; simp; omega
  have hiv : IntsAt (w3.alloc (.cells #[iv y0, iv y1, iv y2] 79)) (.slice (some ⟨w3.heap.size, 0, none⟩) n 3) ([y0, y1, y2].take n) := by
    show SlAt 1 _ _ ([y0, y1, y2].take n).length _
    rw [htl]
    refine ⟨by simp [intCells]; omega, some ⟨w3.heap.size, 0, none⟩, 3, rfl, hn3, (by simp only [maxLen]; omega), (fun h => by cases h), fun a ha => ?_⟩
    cases ha
    refine ⟨rfl, fun j u hj => ?_⟩
    simp only [World.cell?, hk4, Nat.zero_add]
    have hmap : intCells ([y0, y1, y2].take n) = [iv y0, iv y1, iv y2].take n := by unfold intCells; rw [List.map_take]; rfl
    rw [hmap, List.getElem?_take] at hj
    split at hj
    · simpa using hj
    · cases hj
  have hcl := clone_any ([y0, y1, y2].take n) _ _ hiv (by rw [htl]; omega)
  refine hcl.mono ?_
  rintro e w5 ⟨v, rfl, hown, hb⟩
  have hiv5 := SlAt.of_owns hown
  obtain ⟨vo, vc, rfl⟩ := hiv5.open
  have HX := Lib.hid (And.intro (bgo (bgoAlloc HB3.out.1 _) hb) hiv5)
  clear hown hb hiv5 hiv hk4 hsl hcl
  go_wp2_with fail
  go_returns
  exact ⟨HX.out.1, .inr ⟨HF.out, _, by simp; rfl, by
    have h := HX.out.2
    rw [htl] at h
    rw [HDL.out]
    show SlAt 1 _ _ ([y0, y1, y2].take n).length _
    rw [htl]
    exact h⟩⟩

/-! ### Settle -/
def settlesLB (l : LedgerD) (rows : List Int) : Bool := (List.range l.field.weeders.toNat).all fun (i : Nat) => proveAskB l.field (i : Int) rows

theorem settles1_any (l : LedgerD) (tv nv rvv : Value) (rows : List Int) (w : World) (ht : TalliesAt w tv l.field.tallies) (hr : IntsAt w rvv rows) (h0 : 0 ≤ l.field.weeders) (h1 : l.field.weeders ≤ 1000) :
    Calls Try.prog 40 #[lv l tv nv, rvv] w (PV (.bool (settlesLB l rows)) w) := by
  obtain ⟨ro, rc, rfl⟩ := hr.open
  have HT := Lib.hid ht
  have HR := Lib.hid hr
  obtain ⟨n, hn⟩ : ∃ n : Nat, l.field.weeders = n := ⟨l.field.weeders.toNat, by omega⟩
  have HS : Hid (settlesLB l rows = (List.range n).all fun (i : Nat) => proveAskB l.field (i : Int) rows) := Lib.hid (by unfold settlesLB; rw [hn]; rfl)
  obtain ⟨q, hq⟩ : ∃ q, settlesLB l rows = q := ⟨_, rfl⟩
  rw [hq] at HS ⊢
  have HN := Lib.hid hn
  have hn1 : n ≤ 1000 := by omega
  clear ht hr hq hn
  go_enter Try.func40, Try.ntmps40
  go_wp2_with fail
  have hk0 := heap_new0 w (.cells (lcells l tv nv) 34)
  have HK := Lib.hid hk0
  clear hk0
  rw [HN.out]
  go_loopw [9] (fun u wr => ∃ i : Nat, i ≤ n ∧ u = .int .i64 i ∧ Below w.heap.size w wr ∧ wr.heap[w.heap.size]? = some (.cells (lcells l tv nv) 34 (0, 0)) ∧ ((List.range i).all fun (i : Nat) => proveAskB l.field (i : Int) rows) = true) (fun u _ => n - (intOf u).toNat)
  case atStart => exact ⟨0, Nat.zero_le _, rfl, bgoAlloc (Below.refl _ _) _, HK.out, rfl⟩
  case round =>
    obtain ⟨i, hi, rfl, hB, hk, hall⟩ := hrel
    by_cases hlt : i < n
    · obtain ⟨c1, f1, l1⟩ := cells_of_block hk
      obtain ⟨p, hp⟩ : ∃ p, proveAskB l.field (i : Int) rows = p := ⟨_, rfl⟩
      have HP := Lib.hid (hp ▸ wProveAsk_any l.field tv (.slice ro rows.length rc) (i : Int) rows wr (HT.out.below hB (Nat.le_refl _)) (HR.out.below hB (Nat.le_refl _)) (by omega) (by omega))
      have HX := Lib.hid (And.intro hB (And.intro hk (And.intro hall hp)))
      clear hB hk hall hp
      go_wp2_with fail
      refine HP.out.mono ?_
      rintro e w2 ⟨rfl, hb⟩
      have hk2 := (hb.block _ l1).trans HX.out.2.1
      have HB := Lib.hid (And.intro (bgo HX.out.1 hb) hk2)
      clear hb hk2 c1 f1 l1
      cases p
      · have hF : q = false := by
          rw [HS.out, List.all_eq_false]
          exact ⟨i, List.mem_range.2 hlt, by rw [HX.out.2.2.2]; simp⟩
        have HF := Lib.hid hF
        clear hF
        go_wp2_with fail
        go_returns
        exact ⟨by rw [HF.out]; simp, HB.out.1⟩
      · go_wp2_with fail
        go_roundw
        case rel => exact ⟨i + 1, by omega, by go_num, HB.out.1, HB.out.2, by rw [range_all_succ, HX.out.2.2.1, HX.out.2.2.2]; rfl⟩
        case measure => simp [intOf]; omega
    · have hin : i = n := by omega
      subst hin
      have HF := Lib.hid (And.intro (HS.out.trans hall) hB)
      clear hall hB hk
      go_wp2_with fail
      go_returns
      exact ⟨by rw [HF.out.1]; simp, HF.out.2⟩

/-- What add works with: found's cell, pass, the bound, add. -/
structure ShStG (w0 : World) (Ms : List Nat) (Good : World → Prop) (pfn : Value) (below fb pb bb ab : Nat) (W : World) : Prop where
  ext : Ext Ms w0 W
  cache : Good W
  found : ∃ o n c, W.heap[fb]? = some (.cells #[.slice o n c] 36 (0, 0))
  pass : W.heap[pb]? = some (.cells #[pfn] 73 (0, 0))
  bound : W.heap[bb]? = some (.cells #[iv below] 3 (0, 0))
  add : W.heap[ab]? = some (.cells #[.func (.func 50) #[] #[.pointer (some ⟨fb, 0, none⟩), .pointer (some ⟨pb, 0, none⟩), .pointer (some ⟨bb, 0, none⟩), .pointer (some ⟨ab, 0, none⟩)]] 95 (0, 0))
  new : w0.heap.size ≤ fb ∧ w0.heap.size ≤ pb ∧ w0.heap.size ≤ bb ∧ w0.heap.size ≤ ab
  old : ∀ m ∈ Ms, m < w0.heap.size
  good : GoodOf Ms Good

theorem ShStG.table {w0 W W' : World} {Ms : List Nat} {Good : World → Prop} {pfn : Value} {below fb pb bb ab : Nat} (h : ShStG w0 Ms Good pfn below fb pb bb ab W) (hE : Ext Ms W W') (hc : Good W') : ShStG w0 Ms Good pfn below fb pb bb ab W' := by
  have hn := h.new
  have ho := h.old
  obtain ⟨o, n, c, hf⟩ := h.found
  have k : ∀ (b : Nat) (x : Obj), W.heap[b]? = some x → w0.heap.size ≤ b → W'.heap[b]? = some x := fun b x hb hle => (hE.block b (Array.getElem?_eq_some_iff.1 hb).1 (fun hm => by have := ho b hm; omega)).trans hb
  exact ⟨h.ext.trans hE, hc, ⟨o, n, c, k _ _ hf hn.1⟩, k _ _ h.pass hn.2.1, k _ _ h.bound hn.2.2.1, k _ _ h.add hn.2.2.2, hn, ho, h.good⟩

theorem ShStG.below {w0 W W' : World} {Ms : List Nat} {Good : World → Prop} {pfn : Value} {below fb pb bb ab : Nat} (h : ShStG w0 Ms Good pfn below fb pb bb ab W) (hB : Below W.heap.size W W') : ShStG w0 Ms Good pfn below fb pb bb ab W' :=
  h.table (Ext.of_below hB) (h.good.kept _ _ h.cache fun m hm => hB.block m (by have := h.old m hm; have := h.ext.size; omega))

/-- What add leaves behind. -/
def AddPostG (w0 : World) (Ms : List Nat) (Good : World → Prop) (pfn : Value) (below fb pb bb ab : Nat) (r : Option (List Int)) (W : World) (e : Ending) (W' : World) : Prop :=
  (ShStG w0 Ms Good pfn below fb pb bb ab W' ∧ Ext (fb :: Ms) W W') ∧ ((∃ c, r = some c ∧ e = .returned (.bool true) ∧ ∃ sv, W'.heap[fb]? = some (.cells #[sv] 36 (0, 0)) ∧ IntsAt W' sv c) ∨ (r = none ∧ e = .returned (.bool false)))

theorem ShStG.set {w0 W : World} {Ms : List Nat} {Good : World → Prop} {pfn : Value} {below fb pb bb ab : Nat} (h : ShStG w0 Ms Good pfn below fb pb bb ab W) (hd : fb ≠ pb ∧ fb ≠ bb ∧ fb ≠ ab) (o : Option Addr) (n c : Nat) : ShStG w0 Ms Good pfn below fb pb bb ab (W.setCell ⟨fb, 0, none⟩ (.slice o n c)) := by
  have hn := h.new
  have ho := h.old
  obtain ⟨o', n', c', hf⟩ := h.found
  exact ⟨h.ext.set hn.1 _, h.good.kept _ _ h.cache (fun m hm => Below.heap_setCell _ _ _ _ (by have := ho m hm; show m ≠ fb; omega)), ⟨o, n, c, set_block hf _⟩,
    (Below.heap_setCell _ _ _ _ (by show pb ≠ fb; omega)).trans h.pass, (Below.heap_setCell _ _ _ _ (by show bb ≠ fb; omega)).trans h.bound, (Below.heap_setCell _ _ _ _ (by show ab ≠ fb; omega)).trans h.add, hn, ho, h.good⟩

/-- Neither the table nor found's cell holds numbers. -/
theorem ShStG.not {w0 W : World} {Ms : List Nat} {Good : World → Prop} {pfn : Value} {below fb pb bb ab : Nat} (h : ShStG w0 Ms Good pfn below fb pb bb ab W) : ∀ x ∈ fb :: Ms, ∀ o n, W.cell? ⟨x, o, none⟩ ≠ some (.int .i64 n) := by
  intro x hx o n hc
  obtain ⟨o', n', c', hf⟩ := h.found
  rcases List.mem_cons.1 hx with rfl | hx
  · simp only [World.cell?, hf] at hc
    cases o with
    | zero => simp at hc
    | succ o => simp at hc
  · rw [h.good.none _ h.cache x hx o] at hc; cases hc

set_option maxHeartbeats 2000000 in
theorem add_anyG (below : Nat) (hbl : below ≤ 500) (p : List Int → Bool) (Ms : List Nat) (Good : World → Prop) (w0 : World) (pf : Nat) (pfst pcaps : Array Value) (fb pb bb ab : Nat) (hd : fb ≠ pb ∧ fb ≠ bb ∧ fb ≠ ab)
    (eg : ∀ args w, (callFunc pf args).run Try.prog w = .ok (.enter pf args) w)
    (hpass : ∀ l v W, (∀ x ∈ l, 0 ≤ x ∧ x < (below : Int)) → Ext Ms w0 W → Good W → IntsAt W v l → Calls Try.prog pf (pfst.push v ++ pcaps) W (fun e W' => e = .returned (.bool (p l)) ∧ Good W' ∧ Ext Ms W W')) :
    ∀ (m f : Nat) (l : List Int) (v : Value) (W : World), l.length + m ≤ 900 → f ≤ 900 → m ≤ 900 → (∀ x ∈ l, 0 ≤ x ∧ x < (below : Int)) → ShStG w0 Ms Good (.func (.func pf) pfst pcaps) below fb pb bb ab W → IntsAt W v l →
      Calls Try.prog 50 #[v, iv f, iv m, .pointer (some ⟨fb, 0, none⟩), .pointer (some ⟨pb, 0, none⟩), .pointer (some ⟨bb, 0, none⟩), .pointer (some ⟨ab, 0, none⟩)] W
        (AddPostG w0 Ms Good (.func (.func pf) pfst pcaps) below fb pb bb ab (((combs below m f).map (l ++ ·)).find? p) W) := by
  intro m
  induction m with
  | zero =>
    intro f l v W h1 h2 h3 hlb hst hv
    have hres : ((combs below 0 f).map (l ++ ·)).find? p = if p l then some l else none := by
      simp only [combs, List.map_cons, List.map_nil, List.append_nil, List.find?_cons, List.find?_nil]
      cases p l <;> rfl
    obtain ⟨r, hr⟩ : ∃ r, ((combs below 0 f).map (l ++ ·)).find? p = r := ⟨_, rfl⟩
    rw [hr] at hres ⊢
    have HRE := Lib.hid hres
    clear hr hres
    obtain ⟨o, c, rfl⟩ := hv.open
    obtain ⟨o', n', c', hf⟩ := hst.found
    have c1 := cell_of_block0 hf
    have c2 := cell_of_block0 hst.pass
    have hlt := World.block_lt_of_cell? W _ c1
    have hfr := frozen_of_block hf 0
    have hS := hst.set hd o l.length c
    have hv1 : IntsAt (W.setCell ⟨fb, 0, none⟩ (.slice o l.length c)) (.slice o l.length c) l := IntsAt.ext_not hv ((ext_set W ⟨fb, 0, none⟩ _).more (Ms' := fb :: Ms) (by simp)) hst.not
    have HC := Lib.hid (hpass l _ _ hlb hS.ext hS.cache hv1)
    have HS := Lib.hid hst
    have HS1 := Lib.hid (And.intro hS hv1)
    have HF := Lib.hid hf
    have hd1 : ¬ pb = fb := fun e => hd.1 e.symm
    have hd2 := hd.1
    clear hpass hst hv hS hv1 hf
    go_enter Try.func50, Try.ntmps50
    go_wp2_with fail
    refine HC.out.mono ?_
    rintro e W' ⟨rfl, hcc, hE⟩
    have hS2 := HS1.out.1.table hE hcc
    have hn := HS.out.new
    have ho := HS.out.old
    have hfb : W'.heap[fb]? = some (.cells #[.slice o l.length c] 36 (0, 0)) := (hE.block fb (by simpa [World.setCell] using hlt) (fun hm => by have := ho fb hm; omega)).trans (set_block HF.out _)
    have hEE : Ext (fb :: Ms) W W' := ((ext_set W ⟨fb, 0, none⟩ (.slice o l.length c)).more (by simp)).trans (hE.more (fun x hx => List.mem_cons_of_mem _ hx))
    have hv2 : IntsAt W' (.slice o l.length c) l := IntsAt.ext_not HS1.out.2 (hE.more (Ms' := fb :: Ms) (fun x hx => List.mem_cons_of_mem _ hx)) HS1.out.1.not
    have HR := Lib.hid (And.intro hS2 (And.intro hfb (And.intro hEE hv2)))
    clear hcc hE hS2 hfb hEE hv2
    go_wp2_with fail
    go_returns
    refine ⟨⟨HR.out.1, HR.out.2.2.1⟩, ?_⟩
    have hre := HRE.out
    revert hre
    cases p l
    · intro hre; exact .inr ⟨by simpa using hre, by simp⟩
    · intro hre; exact .inl ⟨l, by simpa using hre, by simp, _, HR.out.2.1, HR.out.2.2.2⟩
  | succ m ih =>
    intro f l v W h1 h2 h3 hlb hst hv
    obtain ⟨o, c, rfl⟩ := hv.open
    have hres : ((combs below (m + 1) f).map (l ++ ·)).find? p = ((List.range (below - m - f)).flatMap fun j => (combs below m (f + j + 1)).map ((l ++ [((f + j : Nat) : Int)]) ++ ·)).find? p := by
      conv => lhs; unfold combs
      rw [List.map_flatMap]
      simp only [List.map_map]
      congr 2
      funext j
      apply List.map_congr_left
      intro x _
      simp
    rw [hres]
    clear hres
    obtain ⟨r, hr⟩ : ∃ r, ((List.range (below - m - f)).flatMap fun j => (combs below m (f + j + 1)).map ((l ++ [((f + j : Nat) : Int)]) ++ ·)).find? p = r := ⟨_, rfl⟩
    rw [hr]
    have HRE := Lib.hid hr
    clear hr
    have hmm : (m : Int) + 1 ≤ 900 := by omega
    have hm0 : ((m : Int) + 1 == 0) = false := by simp; omega
    have hm0' : ¬ ((m : Int) + 1 = 0) := by omega
    rw [show (((m + 1 : Nat)) : Int) = (m : Int) + 1 from by omega]
    have HST := Lib.hid hst
    have HV := Lib.hid hv
    have HIH := Lib.hid ih
    have HD := Lib.hid hd
    have HLB := Lib.hid hlb
    clear hpass hst hv ih hd hlb
    go_enter Try.func50, Try.ntmps50
    go_wp2_with fail
    go_loopw [11] (fun i wr => ∃ q : Nat, f ≤ q ∧ q ≤ f + (below - m - f) ∧ i = .int .i64 q ∧ ShStG w0 Ms Good (.func (.func pf) pfst pcaps) below fb pb bb ab wr ∧ Ext (fb :: Ms) W wr ∧
        (∀ j, f + j < q → ((combs below m (f + j + 1)).map ((l ++ [((f + j : Nat) : Int)]) ++ ·)).find? p = none)) (fun i _ => below + f + 1 - (intOf i).toNat)
    case atStart => exact ⟨f, Nat.le_refl _, by omega, rfl, HST.out, Ext.refl _ _, fun j hj => by omega⟩
    case round =>
      obtain ⟨q, hfq, hq, rfl, hst, hE, hno⟩ := hrel
      have hv := IntsAt.ext_not HV.out hE HST.out.not
      have d1 := cell_of_block0 hst.bound
      have d2 := cell_of_block0 hst.add
      have e1 := World.block_lt_of_cell? wr _ d1
      have e2 := World.block_lt_of_cell? wr _ d2
      have HS := Lib.hid hst
      have HE := Lib.hid hE
      have HN := Lib.hid hno
      have HVV := Lib.hid hv
      clear hst hE hno hv
      by_cases hlt : q < f + (below - m - f)
      · have hqI : (q : Int) ≤ (below : Int) - ((m : Int) + 1) := by omega
        have hq9 : (q : Int) ≤ 500 := by omega
        go_wp2_with fail
        refine wp_region_rgP 10 [] (some 5) [(2, ⟨fun _ v => ∃ o c, v = .slice o l.length c, fun _ _ _ => True⟩), (4, ⟨fun _ v => ∃ b : Nat, v = .slice (some ⟨b, 0, none⟩) 1 1, fun _ _ _ => True⟩), (5, ⟨fun _ v => ∃ o c, v = .slice o (l.length + 1) c, fun _ v W => W.ownsRow wr.heap.size 3 1 v (l.length + 1) (intCells (l ++ [(q : Int)]))⟩)] (shPs wr.heap.size l.length l q) (by kernel_rfl) (by kernel_rfl) ?_
        simp only [List.take_succ_cons, List.take_zero, List.drop_succ_cons, List.drop_zero]
        repeat (refine tree_det (by rfl) _ (by rfl) (fun W hW => by go_simp; (try simp (disch := omega) only [IntWalk.i64_in, Int.tdiv_eq_ediv_of_nonneg]); try rfl) ?_; simp only [Act.put, List.setIfInBounds_toArray, List.set_cons_succ, List.set_cons_zero])
        refine tree_pre _ (by rfl) (by rfl) (by exact ⟨.slice none l.length 0, none, 0, rfl⟩) (fun W1 hE hF hG => ?_) (fun _ _ _ _ _ => trivial) (fun v Wa Wb ho hE => owns_ext (Ms := []) ho hE (by simp)) (fun v hv => ?_)
        · have hE' : ExtN wr.heap.size [] wr W1 := hE
          refine does_enter 41 #[.slice o l.length c] (by go_simp; try rfl) ?_
          refine (clone_any l _ W1 (HVV.out.below (below_extN hE' (Nat.le_refl _)) (Nat.le_refl _)) (by omega)).mono ?_
          rintro e W2 ⟨v, rfl, ho, hb⟩
          refine ⟨v, rfl, owns_slice ho, trivial, Ext.of_below hb, owns_base ho hE'.size⟩
        obtain ⟨o2, c2, rfl⟩ := hv
        simp only [Act.put, List.setIfInBounds_toArray, List.set_cons_succ, List.set_cons_zero]
        repeat (refine tree_det (by rfl) _ (by rfl) (fun W hW => by go_simp; (try simp (disch := omega) only [IntWalk.i64_in, Int.tdiv_eq_ediv_of_nonneg]); try rfl) ?_; simp only [Act.put, List.setIfInBounds_toArray, List.set_cons_succ, List.set_cons_zero])
        refine tree_pre _ (by rfl) (by rfl) (by exact ⟨.slice (some ⟨0, 0, none⟩) 1 1, 0, rfl⟩) (fun W1 hE hF hG => ?_) (fun _ _ _ _ _ => trivial) (fun v Wa Wb ho hE => ?_) (fun v hv => ?_)
        · refine does_value (W' := W1.alloc (.cells #[iv q] 3)) (.slice (some ⟨W1.heap.size, 0, none⟩) 1 1) (by go_simp; try rfl) ⟨⟨_, rfl⟩, trivial, Ext.of_below ((Below.refl _ _).alloc (Nat.le_refl _) _), _, rfl, heap_alloc_new _ _⟩
        · obtain ⟨b, hb, hc⟩ := ho
          exact ⟨b, hb, (hE.block b (Array.getElem?_eq_some_iff.1 hc).1 (by simp)).trans hc⟩
        obtain ⟨b4, rfl⟩ := hv
        simp only [Act.put, List.setIfInBounds_toArray, List.set_cons_succ, List.set_cons_zero]
        refine tree_pre _ (by rfl) (by rfl) (by exact ⟨.slice none (l.length + 1) 0, none, 0, rfl⟩) (fun W1 hE hF hG => ?_) (fun v Wa Wb ho hE => owns_ext (Ms := []) ho hE (by simp)) (fun _ _ _ _ _ => trivial) (fun v hv => ?_)
        · obtain ⟨b, hb, hc⟩ := hG rfl _ (List.Mem.head _) (by kernel_rfl)
          cases hb
          have ho : W1.ownsRow wr.heap.size 3 1 (.slice o2 l.length c2) l.length (intCells l) := hG rfl _ (List.Mem.tail _ (List.Mem.head _)) (by kernel_rfl)
          have hE' : Ext [] wr W1 := hE
          have hsrc : SlAt 1 W1 (.slice (some ⟨b4, 0, none⟩) 1 1) 1 (intCells [(q : Int)]) := SlAt.of_block 1 1 hc rfl (by decide)
          refine Does.mono (does_append tInts (by rfl) (by rfl) ho (by rfl) hsrc (one_ints _) (by omega) (by omega) hE'.size) ?_
          rintro v W2 ⟨hown, hgr⟩
          rw [← intCells_snoc] at hown
          obtain ⟨o5, c5, rfl⟩ := owns_slice hown
          exact ⟨⟨o5, c5, rfl⟩, hown, extN_grown ho hgr, trivial⟩
        obtain ⟨o5, c5, rfl⟩ := hv
        simp only [Act.put, List.setIfInBounds_toArray, List.set_cons_succ, List.set_cons_zero]
        repeat (refine tree_det (by rfl) _ (by rfl) (fun W hW => by go_simp; (try simp (disch := omega) only [IntWalk.i64_in]); try rfl) ?_; simp only [Act.put, List.setIfInBounds_toArray, List.set_cons_succ, List.set_cons_zero])
        intro W1 hE1 hF
        have hE' : ExtN wr.heap.size [] wr W1 := hE1
        have hB := below_extN hE' (Nat.le_refl _)
        obtain ⟨hc, hf⟩ := bcell hB
        have ho : W1.ownsRow wr.heap.size 3 1 (.slice o5 (l.length + 1) c5) (l.length + 1) (intCells (l ++ [(q : Int)])) := hF _ (List.Mem.head _)
        have hiv : IntsAt W1 (.slice o5 (l.length + 1) c5) (l ++ [(q : Int)]) := by
          have := SlAt.of_owns ho
          unfold IntsAt
          rw [List.length_append]
          exact this
        have hcall := HIH.out (q + 1) (l ++ [(q : Int)]) _ W1 (by simp; omega) (by omega) (by omega) (fun x hx => by rcases List.mem_append.1 hx with h | h; exact HLB.out x h; (obtain rfl : x = (q : Int) := by simpa using h); omega) (HS.out.below hB) hiv
        rw [show (((q + 1 : Nat)) : Int) = (q : Int) + 1 from by omega] at hcall
        have HC := Lib.hid hcall
        have HB := Lib.hid hB
        clear hcall hiv ho hB hE' hE1 hF
        go_wp2_with fail
        refine HC.out.mono ?_
        rintro e W2 ⟨⟨hS2, hE2⟩, hres⟩
        have HS2 := Lib.hid hS2
        have HEE := Lib.hid ((HE.out.trans (Ext.of_below HB.out)).trans hE2)
        clear hS2 hE2 hc hf d1 d2
        have hq1 : f + (q - f) = q := by omega
        rcases hres with ⟨cc, hcc, rfl, sv, hsv, hiv⟩ | ⟨hnone, rfl⟩
        · have HR := Lib.hid (And.intro hcc (And.intro hsv hiv))
          clear hcc hsv hiv
          go_wp2_with fail
          go_returns
          refine ⟨⟨HS2.out, HEE.out⟩, .inl ⟨cc, ?_, by simp, sv, HR.out.2⟩⟩
          rw [← HRE.out]
          refine find_flat_first p _ _ (q - f) (by simp; omega) cc (fun j hj => ?_) ?_
          · simp only [List.getElem_range]
            exact HN.out j (by omega)
          · simp only [List.getElem_range, hq1]
            exact HR.out.1
        · have HR := Lib.hid hnone
          clear hnone
          go_wp2_with fail
          go_roundw
          case rel =>
            refine ⟨q + 1, by omega, by omega, by go_num, HS2.out, HEE.out, fun j hj => ?_⟩
            by_cases hjq : f + j = q
            · rw [hjq]; exact HR.out
            · exact HN.out j (by omega)
          case measure => simp [intOf]; omega
      · have hqI : ¬ ((q : Int) ≤ (below : Int) - ((m : Int) + 1)) := by omega
        go_wp2_with fail
        go_returns
        refine ⟨⟨HS.out, HE.out⟩, .inr ⟨?_, by simp⟩⟩
        rw [← HRE.out]
        exact find_flat_none p _ _ (fun j hj => by
          simp only [List.length_range] at hj
          simp only [List.getElem_range]
          exact HN.out j (by omega))

/-- What shortest returns. -/
def ShPostG (Ms : List Nat) (Good : World → Prop) (r : Option (List Int)) (w : World) (e : Ending) (W' : World) : Prop :=
  (Good W' ∧ Ext Ms w W') ∧ ((∃ c v, r = some c ∧ e = .returned v ∧ IntsAt W' v c) ∨ (r = none ∧ ∃ o n c, e = .returned (.slice o n c)))

theorem ShStG.fin {w0 W : World} {Ms : List Nat} {Good : World → Prop} {pfn : Value} {below fb pb bb ab : Nat} (h : ShStG w0 Ms Good pfn below fb pb bb ab W) : Good W ∧ Ext Ms w0 W := ⟨h.cache, h.ext⟩

set_option maxHeartbeats 2000000 in
theorem shortest_anyG (below : Nat) (hbl : below ≤ 500) (p : List Int → Bool) (Ms : List Nat) (Good : World → Prop) (hG : GoodOf Ms Good) (w : World) (hcc : Good w) (hmb : ∀ m ∈ Ms, m < w.heap.size) (pf : Nat) (pfst pcaps : Array Value)
    (eg : ∀ args w, (callFunc pf args).run Try.prog w = .ok (.enter pf args) w)
    (hpass : ∀ l v W, (∀ x ∈ l, 0 ≤ x ∧ x < (below : Int)) → Ext Ms w W → Good W → IntsAt W v l → Calls Try.prog pf (pfst.push v ++ pcaps) W (fun e W' => e = .returned (.bool (p l)) ∧ Good W' ∧ Ext Ms W W')) :
    Calls Try.prog 29 #[iv below, .func (.func pf) pfst pcaps] w (ShPostG Ms Good (shortL below p) w) := by
  have HA := Lib.hid (fun (m : Nat) (W : World) (hm : m ≤ 501) (hst : ShStG w Ms Good (.func (.func pf) pfst pcaps) below (w.heap.size + 1 + 1) (w.heap.size + 1) w.heap.size (w.heap.size + 1 + 1 + 1) W) =>
    add_anyG below hbl p Ms Good w pf pfst pcaps (w.heap.size + 1 + 1) (w.heap.size + 1) w.heap.size (w.heap.size + 1 + 1 + 1) (by omega) eg hpass m 0 [] (.slice none 0 0) W (by simp; omega) (by omega) (by omega) (by simp) hst (ints_nil W))
  obtain ⟨r, hr⟩ : ∃ r, shortL below p = r := ⟨_, rfl⟩
  rw [hr]
  have HR := Lib.hid hr
  have HCC := Lib.hid hcc
  clear hpass eg hcc hr
  go_enter Try.func29, Try.ntmps29
  go_wp2_with fail
  go_step3
  go_wp2_with fail
  go_step3
  go_wp2_with fail
  obtain ⟨w4, hw4⟩ : ∃ w4, ((((w.alloc (.cells #[iv below] 3)).alloc (.cells #[.func (.func pf) pfst pcaps] 73)).alloc (.cells #[.slice none 0 0] 36)).alloc
      (.cells #[.func (.func 50) #[] #[.pointer (some ⟨w.heap.size + 1 + 1, 0, none⟩), .pointer (some ⟨w.heap.size + 1, 0, none⟩), .pointer (some ⟨w.heap.size, 0, none⟩), .pointer (some ⟨w.heap.size + 1 + 1 + 1, 0, none⟩)]] 95)) = w4 := ⟨_, rfl⟩
  have hst0 : ShStG w Ms Good (.func (.func pf) pfst pcaps) below (w.heap.size + 1 + 1) (w.heap.size + 1) w.heap.size (w.heap.size + 1 + 1 + 1) w4 := by
    have hB : Below w.heap.size w w4 := by rw [← hw4]; exact (by repeat (first | exact Below.refl _ _ | assumption | refine bgo ?_ (by assumption) | refine bgoAlloc ?_ _ | refine bgoDrew ?_ | refine bgoSet ?_ (by simp; omega) _))
    refine ⟨Ext.of_below hB, hG.kept _ _ HCC.out (fun m hm => hB.block m (hmb m hm)), ⟨none, 0, 0, ?_⟩, ?_, ?_, ?_, by omega, hmb, hG⟩
    · rw [← hw4]; exact (Below.heap_alloc _ _ _ (by simp)).trans (heap_new2 _ _ _ _)
    · rw [← hw4]; exact (Below.heap_alloc _ _ _ (by simp)).trans ((Below.heap_alloc _ _ _ (by simp)).trans (heap_new1 _ _ _))
    · rw [← hw4]; exact (Below.heap_alloc _ _ _ (by simp; omega)).trans ((Below.heap_alloc _ _ _ (by simp; omega)).trans ((Below.heap_alloc _ _ _ (by simp)).trans (heap_new0 _ _)))
    · rw [← hw4]; have := heap_new0 (((w.alloc (.cells #[iv below] 3)).alloc (.cells #[.func (.func pf) pfst pcaps] 73)).alloc (.cells #[.slice none 0 0] 36)) (.cells #[.func (.func 50) #[] #[.pointer (some ⟨w.heap.size + 1 + 1, 0, none⟩), .pointer (some ⟨w.heap.size + 1, 0, none⟩), .pointer (some ⟨w.heap.size, 0, none⟩), .pointer (some ⟨w.heap.size + 1 + 1 + 1, 0, none⟩)]] 95); simpa using this
  rw [hw4]
  have HS0 := Lib.hid hst0
  clear hst0 hw4
  go_loopw [10] (fun i wr => ∃ k : Nat, k ≤ below + 1 ∧ i = .int .i64 k ∧ ShStG w Ms Good (.func (.func pf) pfst pcaps) below (w.heap.size + 1 + 1) (w.heap.size + 1) w.heap.size (w.heap.size + 1 + 1 + 1) wr ∧
      (∀ j, j < k → (combs below j 0).find? p = none)) (fun i _ => below + 1 - (intOf i).toNat)
  case atStart => exact ⟨0, Nat.zero_le _, rfl, HS0.out, fun j hj => by omega⟩
  case round =>
    obtain ⟨k, hk, rfl, hst, hno⟩ := hrel
    have d2 := cell_of_block0 hst.add
    have e2 := World.block_lt_of_cell? wr _ d2
    have HS := Lib.hid hst
    have HN := Lib.hid hno
    clear hst hno
    by_cases hlt : k < below + 1
    · have hkI : (k : Int) < (below : Int) + 1 := by omega
      have HC := Lib.hid (HA.out k wr (by omega) HS.out)
      go_wp2_with fail
      refine HC.out.mono ?_
      rintro e W2 ⟨⟨hS2, _⟩, hres⟩
      have HS2 := Lib.hid hS2
      rcases hres with ⟨cc, hcc, rfl, sv, hsv, hiv⟩ | ⟨hnone, rfl⟩
      · have hr : r = some cc := by
          rw [← HR.out]
          exact shortL_at (by omega) HN.out (by simpa using hcc)
        obtain ⟨so, sc, rfl⟩ := hiv.open
        have f1 := cell_of_block0 hsv
        have f2 := frozen_of_block hsv 0
        have f3 := World.block_lt_of_cell? W2 _ f1
        have HX := Lib.hid (And.intro hr (And.intro hsv hiv))
        clear hr hsv hiv hS2 hcc d2
        go_wp2_with fail
        (try rw [Exit.noGoto_ret])
        have hcell : (W2.setCell ⟨w.heap.size + 1 + 1, 0, none⟩ (.slice so cc.length sc)).cell? ⟨w.heap.size + 1 + 1, 0, none⟩ = some (.slice so cc.length sc) := cell_of_block0 (set_block HX.out.2.1 _)
        refine bodyPost_ret (v := .slice so cc.length sc) (by simp [results, Try.results29, go_sem, hcell]) rfl ?_
        refine ⟨(HS2.out.set (by omega) so cc.length sc).fin, .inl ⟨cc, _, HX.out.1, rfl, ?_⟩⟩
        exact IntsAt.ext_not HX.out.2.2 ((ext_set W2 ⟨w.heap.size + 1 + 1, 0, none⟩ _).more (Ms' := (w.heap.size + 1 + 1) :: Ms) (by simp)) HS2.out.not
      · have HX := Lib.hid hnone
        clear hnone hS2 d2
        go_wp2_with fail
        go_roundw
        case rel =>
          refine ⟨k + 1, by omega, by go_num, HS2.out, fun j hj => ?_⟩
          by_cases hjq : j = k
          · subst hjq; simpa using HX.out
          · exact HN.out j (by omega)
        case measure => simp [intOf]; omega
    · have hkI : ¬ ((k : Int) < (below : Int) + 1) := by omega
      obtain ⟨o', n', c', hf⟩ := HS.out.found
      have f1 := cell_of_block0 hf
      have f2 := frozen_of_block hf 0
      have f3 := World.block_lt_of_cell? wr _ f1
      have hk1 : k = below + 1 := by omega
      subst hk1
      have hr : r = none := by
        rw [← HR.out]
        exact shortL_no HN.out
      go_wp2_with fail
      (try rw [Exit.noGoto_ret])
      have hcell : (wr.setCell ⟨w.heap.size + 1 + 1, 0, none⟩ (.slice o' n' c')).cell? ⟨w.heap.size + 1 + 1, 0, none⟩ = some (.slice o' n' c') := cell_of_block0 (set_block hf _)
      refine bodyPost_ret (v := .slice o' n' c') (by simp [results, Try.results29, go_sem, hcell]) rfl ?_
      exact ⟨(HS.out.set (by omega) o' n' c').fin, .inr ⟨rfl, _, _, _, rfl⟩⟩

/-- On increasing lists of rows the ledger's question is the field's. -/
theorem settlesLB_eq {l : LedgerD} (hS : SoundL l) {rows : List Int} (hr : Inc l.field.rows.toNat 0 rows) : settlesLB l rows = settlesAll l.field rows := by
  have hF := soundF_of hS.field
  have hr0 := hF.rows0
  have hask : askFErr l.field true = 0 := by
    unfold askFErr
    rw [if_neg (by rw [hS.field]; simp), if_neg (by simp), if_neg (by simpa using hS.some)]
  have htu : isTurns (l.field.rows - 1) rows = true := (turns_inc (by omega) rows).2 (by rw [show (l.field.rows - 1 + 1).toNat = l.field.rows.toNat from by omega]; exact hr)
  have h : ∀ i ∈ List.range l.field.weeders.toNat, proveAskB l.field (i : Int) rows = settlesF l.field (i : Int) rows := fun i hi => by
    have hi' := List.mem_range.1 hi
    have hin : inB (i : Int) 0 (l.field.weeders - 1) = true := by unfold inB; simp; omega
    unfold proveAskB
    rw [hin, hask, htu]
    rfl
  unfold settlesLB settlesAll
  generalize List.range l.field.weeders.toNat = L at h
  induction L with
  | nil => rfl
  | cons i L ih => rw [List.all_cons, List.all_cons, h i (by simp), ih (fun j hj => h j (by simp [hj]))]

theorem shortL_congr {n : Nat} {p q : List Int → Bool} (h : ∀ x, Inc n 0 x → p x = q x) : shortL n p = shortL n q := by
  unfold shortL
  have : ∀ x ∈ (List.range (n + 1)).flatMap fun m => combs n m 0, p x = q x := fun x hx => h x ((mem_shortAll n x).1 hx)
  generalize (List.range (n + 1)).flatMap (fun m => combs n m 0) = L at this
  induction L with
  | nil => rfl
  | cons x L ih =>
    rw [List.find?_cons, List.find?_cons, this x (by simp), ih (fun y hy => this y (by simp [hy]))]

def SettlePost (l : LedgerD) (w : World) (e : Ending) (w' : World) : Prop :=
  Below w.heap.size w w' ∧ ((faultW l ≠ 0 ∧ e = .returned (.tuple #[.slice none 0 0, iv (faultW l)])) ∨ (faultW l = 0 ∧ ∃ v, e = .returned (.tuple #[v, iv 0]) ∧ IntsAt w' v (settleF l.field)))

theorem Settle_any (l : LedgerD) (tv nv : Value) (w : World) (ht : TalliesAt w tv l.field.tallies) (hn : TriplesAt w nv l.notes) :
    Calls Try.prog 43 #[lv l tv nv] w (SettlePost l w) := by
  have HC := Lib.hid (CheckLedger_any l tv nv (w.alloc (.cells (lcells l tv nv) 34)) (ht.alloc _) (hn.alloc _))
  have HT := Lib.hid ht
  clear ht hn
  obtain ⟨q, hq⟩ : ∃ q, faultW l = q := ⟨_, rfl⟩
  rw [hq] at HC
  have HQ := Lib.hid hq
  by_cases hq0 : q = 0
  case neg =>
    have HQ0 := Lib.hid hq0
    have hqb : (q != 0) = true := by simpa using hq0
    clear hq hq0
    go_enter Try.func43, Try.ntmps43
    go_wp2_with fail
    refine HC.out.mono ?_
    rintro e w1 ⟨rfl, hb⟩
    go_wp2_with fail
    go_returns
    exact ⟨(by repeat (first | exact Below.refl _ _ | assumption | refine bgo ?_ (by assumption) | refine bgoAlloc ?_ _ | refine bgoDrew ?_ | refine bgoSet ?_ (by simp; omega) _)), .inl ⟨by rw [HQ.out]; exact HQ0.out, by rw [HQ.out]; simp⟩⟩
  subst hq0
  obtain ⟨hS, _⟩ := faultW_sound hq
  have hSF := soundF_of hS.field
  have hw0 := hSF.weed0
  have hw3 := hSF.weed1
  have hr7 := hSF.rows1
  have hr0 := hSF.rows0
  obtain ⟨n, hn⟩ : ∃ n : Nat, l.field.rows = n := ⟨l.field.rows.toNat, by omega⟩
  have hn7 : n ≤ 7 := by omega
  have hnt : l.field.rows.toNat = n := by omega
  have hsh : shortL n (settlesLB l) = some (settleF l.field) := by
    rw [← (settleF_spec l.field).1]
    unfold settleS
    rw [hnt]
    exact shortL_congr fun x hx => settlesLB_eq hS (by rw [hnt]; exact hx)
  have HSH := Lib.hid hsh
  have HN := Lib.hid hn
  have HCALL := Lib.hid (fun (W : World) (hB : Below w.heap.size w W) => hn ▸ shortest_anyG n (by omega) (settlesLB l) [] (fun _ => True) ⟨fun _ _ _ _ => trivial, fun _ _ m hm => by simp at hm⟩ W trivial (by simp) 40 #[lv l tv nv] #[]
    (enters_of Try.func40 (by kernel_rfl) rfl) (fun x u W' _ hE _ hv => by
      refine (settles1_any l tv nv u x W' (HT.out.below (bgo hB (hE.below)) (Nat.le_refl _)) hv (by omega) (by omega)).mono ?_
      rintro e W2 ⟨rfl, hb⟩
      exact ⟨rfl, trivial, Ext.of_below hb⟩))
  clear hq hS hSF hw0 hw3 hr7 hr0 hn hnt hsh
  go_enter Try.func43, Try.ntmps43
  go_wp2_with fail
  refine HC.out.mono ?_
  rintro e w1 ⟨rfl, hb⟩
  have hk1 := (hb.block w.heap.size (by simp)).trans (heap_new0 w (.cells (lcells l tv nv) 34))
  have HB1 := Lib.hid (show Below w.heap.size w w1 from (by repeat (first | exact Below.refl _ _ | assumption | refine bgo ?_ (by assumption) | refine bgoAlloc ?_ _ | refine bgoDrew ?_ | refine bgoSet ?_ (by simp; omega) _)))
  obtain ⟨c1, f1, l1⟩ := cells_of_block hk1
  clear hb hk1
  go_wp2_with fail
  refine (HCALL.out w1 HB1.out).mono ?_
  rintro e w2 ⟨⟨_, hE⟩, ⟨cx, u, hcx, rfl, hiv⟩ | ⟨hno, _⟩⟩
  · have hres : cx = settleF l.field := by rw [HSH.out] at hcx; injection hcx with h; exact h.symm
    obtain ⟨uo, uc, rfl⟩ := hiv.open
    have HX := Lib.hid (And.intro (bgo HB1.out hE.below) (And.intro hres hiv))
    clear hE hcx hiv hres c1 f1 l1
    go_wp2_with fail
    go_returns
    exact ⟨HX.out.1, .inr ⟨HQ.out, _, by simp; rfl, by rw [← HX.out.2.1]; exact HX.out.2.2⟩⟩
  · rw [HSH.out] at hno; cases hno

end Go.Proofs.Ytechgmnkcijahaa

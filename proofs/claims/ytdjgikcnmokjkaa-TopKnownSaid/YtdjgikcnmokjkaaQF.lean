/-
  Contracts of package wage, sixth part: possible; the error of a ledger.
-/
import Derived.WalkKit
import Derived.WalkLawsBesides
import Derived.WalkSpells
import Derived.Outline
import Derived.Handy
import Derived.KernelRfl
import Derived.Lib.Hide
import Derived.Test.YtdjgikcnmokjkaaQE
namespace Go.Proofs.Ytdjgikcnmokjkaa
open Go.RowKit Go.RG Go.SL Go.Shelf Cou Go.TB
set_option maxHeartbeats 400000
set_option maxRecDepth 10000

abbrev duesv (d : List Int) : Value := aggI d
abbrev DuesAt (w : World) (v : Value) (ls : List (List Int)) : Prop := SlAt 3 w v ls.length (ls.flatMap intCells)

theorem idxD (l : List (List Int)) (v : Value) (fid : Nat) (fst caps : Array Value) (p : Nat → Bool) (I : Nat → World → Prop) (w : World) (h3 : ∀ x ∈ l, x.length = 3) (eg : ∀ args w, (callFunc fid args).run Try.prog w = .ok (.enter fid args) w)
    (hsl : ∀ k W, I k W → DuesAt W v l)
    (hcall : ∀ k (hk : k < l.length) W, (∀ j, j < k → p j = false) → I k W → Calls Try.prog fid (fst.push (duesv l[k]) ++ caps) W (fun e W' => e = .returned (.bool (p k)) ∧ I (k + 1) W')) (h0 : I 0 w) :
    Calls Try.prog 114 #[v, .func (.func fid) fst caps] w (IdxPost l.length p I (fun k => iv k) (iv (-1))) := by
  have hlen := (hsl 0 w h0).len
  obtain ⟨o, c, rfl⟩ := (hsl 0 w h0).open
  have HC := Lib.hid hcall
  have HS := Lib.hid hsl
  have H3 := Lib.hid h3
  clear hcall hsl h3
  go_enter Try.func114, Try.ntmps114
  go_wp2
  go_loopw [4, 5, 8] (fun _ _ i wr => ∃ k : Nat, k ≤ l.length ∧ i = .int .i64 k ∧ (∀ j, j < k → p j = false) ∧ I k wr) (fun _ _ i _ => l.length - (intOf i).toNat)
  case atStart => exact ⟨0, Nat.zero_le _, rfl, fun j hj => by omega, h0⟩
  case round =>
    obtain ⟨k, hk, rfl, hno, hI⟩ := hrel
    by_cases hlt : k < l.length
    · obtain ⟨b, off, y0, y1, y2, hvv, hb, hys, hc0, hc1, hc2⟩ := dues_cell (HS.out k wr hI) H3.out hlt
      subst hvv
      have hC := HC.out k hlt wr hno hI
      have hda : duesv l[k] = .agg #[iv y0, iv y1, iv y2] := by show aggI l[k] = _; rw [hys]; rfl
      rw [hda] at hC
      have HN := Lib.hid hno
      clear hno
      go_wp2_with fail
      refine hC.mono ?_
      rintro e W1 ⟨rfl, hI1⟩
      have HI := Lib.hid hI1
      clear hI1 hI hC
      cases hp : p k
      · go_wp2_with fail
        go_roundw
        case rel => exact ⟨k + 1, by omega, by go_num, fun j hj => (by by_cases e : j = k; (subst e; exact hp); exact HN.out j (by omega)), HI.out⟩
        case measure => simp [intOf]; omega
      · go_wp2_with fail
        go_returns
        exact ⟨k, by omega, HN.out, .inl ⟨hlt, hp, by simp, HI.out⟩⟩
    · have hkl : k = l.length := by omega
      have HN := Lib.hid hno
      clear hno
      go_wp2_with fail
      go_returns
      exact ⟨k, by omega, HN.out, .inr ⟨hkl, by simp, by subst hkl; exact hI⟩⟩

theorem contD (l : List (List Int)) (v : Value) (fid : Nat) (fst caps : Array Value) (p : Nat → Bool) (I : Nat → World → Prop) (w : World) (h3 : ∀ x ∈ l, x.length = 3) (eg : ∀ args w, (callFunc fid args).run Try.prog w = .ok (.enter fid args) w)
    (hsl : ∀ k W, I k W → DuesAt W v l)
    (hcall : ∀ k (hk : k < l.length) W, (∀ j, j < k → p j = false) → I k W → Calls Try.prog fid (fst.push (duesv l[k]) ++ caps) W (fun e W' => e = .returned (.bool (p k)) ∧ I (k + 1) W')) (h0 : I 0 w) :
    Calls Try.prog 97 #[v, .func (.func fid) fst caps] w (IdxPost l.length p I (fun _ => .bool true) (.bool false)) := by
  have HI := Lib.hid (idxD l v fid fst caps p I w h3 eg hsl hcall h0)
  have hlen := (hsl 0 w h0).len
  clear hsl hcall h0 eg
  go_enter Try.func97, Try.ntmps97
  go_wp2_with fail
  refine HI.out.mono ?_
  clear HI
  rintro e W' ⟨k, hk, hno, ⟨hlt, hp, rfl, hI⟩ | ⟨hkl, rfl, hI⟩⟩
  · have HN := Lib.hid (And.intro hno (And.intro hp hI))
    clear hno hp hI
    go_wp2_with fail
    go_returns
    exact ⟨k, hk, HN.out.1, .inl ⟨hlt, HN.out.2.1, by simp, HN.out.2.2⟩⟩
  · have HN := Lib.hid (And.intro hno (And.intro hkl hI))
    clear hno hkl hI
    go_wp2_with fail
    go_returns
    exact ⟨k, hk, HN.out.1, .inr ⟨HN.out.2.1, by simp, HN.out.2.1 ▸ HN.out.2.2⟩⟩

/-! ### Whether there is a truth -/
def possibleL (l : LedgerD) (out : List Int) : Bool := (duesT l).any (canPay l out)

/-- The ledger at work in whatever state its table is. -/
structure LwOk (W : World) (wb mb : Nat) (l : LedgerD) (tv nv v : Value) : Prop where
  work : LwAt W wb mb l tv nv v (duesT l)
  tab : ∃ T, TabAt spv rv (fun _ => True) W mb T
/-- .. behind 'without': it knows what can have been paid without some notes. -/
structure LwKn (W : World) (wb mb : Nat) (l : LedgerD) (tv nv v : Value) (out : List Int) : Prop where
  work : LwAt W wb mb l tv nv v (duesT l)
  tab : ∃ T, TabAt spv rv (fun _ => True) W mb T ∧ FillT (leftL l out) T (keysTo l.field.weeders.toNat (duesT l) (duesT l).length)

theorem LwKn.ok {W : World} {wb mb : Nat} {l : LedgerD} {tv nv v : Value} {out : List Int} (h : LwKn W wb mb l tv nv v out) : LwOk W wb mb l tv nv v := ⟨h.work, let ⟨T, h1, _⟩ := h.tab; ⟨T, h1⟩⟩
theorem LwKn.below {W W' : World} {wb mb : Nat} {l : LedgerD} {tv nv v : Value} {out : List Int} (h : LwKn W wb mb l tv nv v out) {B : Nat} (hb : Below B W W') (hB : W.heap.size ≤ B) : LwKn W' wb mb l tv nv v out :=
  ⟨h.work.below hb hB, let ⟨T, h1, h2⟩ := h.tab; ⟨T, h1.below hb hB, h2⟩⟩
theorem LwOk.below {W W' : World} {wb mb : Nat} {l : LedgerD} {tv nv v : Value} (h : LwOk W wb mb l tv nv v) {B : Nat} (hb : Below B W W') (hB : W.heap.size ≤ B) : LwOk W' wb mb l tv nv v :=
  ⟨h.work.below hb hB, let ⟨T, h1⟩ := h.tab; ⟨T, h1.below hb hB⟩⟩
theorem LwOk.lt {W : World} {wb mb : Nat} {l : LedgerD} {tv nv v : Value} (h : LwOk W wb mb l tv nv v) : mb < W.heap.size := let ⟨_, h1⟩ := h.tab; h1.lt
theorem LwOk.noCell {W : World} {wb mb : Nat} {l : LedgerD} {tv nv v : Value} (h : LwOk W wb mb l tv nv v) (o : Nat) : W.cell? ⟨mb, o, none⟩ = none := let ⟨_, h1⟩ := h.tab; h1.noCell o

/-- What checked has shown, but whether all dues can be paid. -/
theorem duesT_three (l : LedgerD) : ∀ x ∈ duesT l, x.length = 3 := duesTo_three l _
theorem duesT_bd {l : LedgerD} (hS : SoundL l) {d : List Int} (hd : d ∈ duesT l) (i : Nat) (hi : i < 3) : 0 ≤ d.getD i 0 ∧ d.getD i 0 ≤ 350 := by
  obtain ⟨t, ht, rfl⟩ := mem_duesT.1 hd
  have hF := soundF_of hS.field
  have := truthsF_len ht
  exact duesV_bd (by have := hS.rate; omega) (by have := hS.rate; omega) t (by have := hF.rows1; omega) i hi

theorem look_of {l : LedgerD} {out : List Int} {T : List ((Int × Int) × Rng)} (hF : FillT (leftL l out) T (keysTo l.field.weeders.toNat (duesT l) (duesT l).length)) {d : List Int} (hd : d ∈ duesT l) {i : Nat} (hi : i < l.field.weeders.toNat) :
    TB.look ((i : Int), d.getD i 0) T = some ((alone l out d).getD i (0, 0)) := by
  obtain ⟨r, hr⟩ := hF.has ((i : Int), d.getD i 0) (by
    unfold keysTo
    rw [List.take_length, List.mem_flatMap]
    exact ⟨d, hd, List.mem_map.2 ⟨i, List.mem_range.2 hi, rfl⟩⟩)
  rw [hr, hF.only _ _ hr, kn_known, alone_get _ _ _ hi]

theorem alone_bd {l : LedgerD} (hS : SoundL l) (out : List Int) {d : List Int} (hd : d ∈ duesT l) : ∀ r ∈ alone l out d, 0 ≤ r.1 ∧ r.1 ≤ 2000 ∧ 0 ≤ r.2 ∧ r.2 ≤ 2000 := by
  intro r hr
  obtain ⟨i, hi, rfl⟩ := List.mem_map.1 hr
  have hF := soundF_of hS.field
  have := hF.weed1
  have hi' := List.mem_range.1 hi
  have hb := duesT_bd hS hd i (by omega)
  have := known_bd hS out i hb.1 (by omega)
  omega

theorem paid_at {l : LedgerD} (hS : SoundL l) {tv nv v : Value} {out : List Int} {wb mb : Nat} {d : List Int} (hd : d ∈ duesT l) {w : World} (hw : LwKn w wb mb l tv nv v out) :
    Calls Try.prog 68 #[.pointer (some ⟨wb, 0, none⟩), aggI d] w (PaidPost l out d w) := by
  obtain ⟨T, hT, hF⟩ := hw.tab
  exact paid_any l (soundF_of hS.field) (by have := hS.box; omega) tv nv v out d (duesT_three l d hd) (alone l out d) rfl (alone_bd hS out hd) wb mb T w hw.work.cells hT (fun i hi => look_of hF hd hi)

theorem poss1_any {l : LedgerD} (hS : SoundL l) {tv nv v : Value} {out : List Int} {wb mb bp : Nat} {d : List Int} (hd : d ∈ duesT l) {w : World} (hw : LwKn w wb mb l tv nv v out) (hp : w.heap[bp]? = some (.cells #[.pointer (some ⟨wb, 0, none⟩)] 116 (0, 0))) :
    Calls Try.prog 98 #[aggI d, .pointer (some ⟨bp, 0, none⟩)] w (PV (.bool (canPay l out d)) w) := by
  obtain ⟨y0, y1, y2, hys⟩ := three_of (duesT_three l d hd)
  have hag : aggI d = .agg #[iv y0, iv y1, iv y2] := by rw [hys]; rfl
  have HP := Lib.hid (fun W hW => hag ▸ paid_at (w := W) hS hd (hw.below (B := w.heap.size) hW (Nat.le_refl _)))
  rw [hag]
  obtain ⟨c1, f1, l1⟩ := cells_of_block hp
  obtain ⟨q, hq⟩ : ∃ q, canPay l out d = q := ⟨_, rfl⟩
  have HQ := Lib.hid hq
  clear hw hp hag hys hq
  go_enter Try.func98, Try.ntmps98
  go_wp2_with fail
  refine (HP.out _ (bgoAlloc (Below.refl _ _) _)).mono ?_
  rintro e w' ⟨hb, ⟨hc, u, rfl, hu⟩ | ⟨hc, rfl⟩⟩
  · have hq : q = true := by rw [← HQ.out, hc]
    obtain ⟨uo, uc, rfl⟩ := owns_slice hu
    have HB := Lib.hid (bgo (bgoAlloc (Below.refl w.heap.size w) (.cells #[iv y0, iv y1, iv y2] 107)) hb)
    have HE := Lib.hid (And.intro hc hq)
    clear hb hc hu hq
    go_wp2_with fail
    go_returns
    exact ⟨by rw [HE.out.1]; simp, HB.out⟩
  · have HB := Lib.hid (bgo (bgoAlloc (Below.refl w.heap.size w) (.cells #[iv y0, iv y1, iv y2] 107)) hb)
    have HE := Lib.hid hc
    clear hb hc
    go_wp2_with fail
    go_returns
    exact ⟨by rw [HE.out]; simp, HB.out⟩

theorem possible_any {l : LedgerD} (hS : SoundL l) {tv nv v ov : Value} (out : List Int) {wb mb : Nat} {w : World} (hw : LwOk w wb mb l tv nv v) (ho : IntsAt w ov out) :
    Calls Try.prog 67 #[.pointer (some ⟨wb, 0, none⟩), ov] w (fun e w' => e = .returned (.bool (possibleL l out)) ∧ LwKn w' wb mb l tv nv v out ∧ Ext [mb] w w') := by
  obtain ⟨T0, hT0⟩ := hw.tab
  obtain ⟨oo, oc, rfl⟩ := ho.open
  obtain ⟨vo, vc, rfl⟩ := hw.work.truth.open
  have hF := soundF_of hS.field
  have hlen : (duesT l).length ≤ 2500 := Nat.le_trans (duesTo_len l _) (truthsF_count hF [])
  have hBA : Below w.heap.size w (w.alloc (.cells #[.pointer (some ⟨wb, 0, none⟩)] 116)) := bgoAlloc (Below.refl _ _) _
  have HWO := Lib.hid (without_any l hF hS.many tv nv _ _ out wb mb (duesT l) T0 _ (hw.work.below hBA (Nat.le_refl _)) (hT0.below hBA (Nat.le_refl _)) (ho.below hBA (Nat.le_refl _)) (duesT_three l) hlen)
  have hmb := hT0.lt
  have hwb := hw.work.lt
  have HW := Lib.hid (And.intro (hw.work.below hBA (Nat.le_refl _)) (hT0.below hBA (Nat.le_refl _)))
  have HS := Lib.hid hS
  obtain ⟨q, hq⟩ : ∃ q, possibleL l out = q := ⟨_, rfl⟩
  rw [hq]
  have HQ := Lib.hid hq
  have hbp := heap_new0 w (.cells #[.pointer (some ⟨wb, 0, none⟩)] 116)
  have HBP := Lib.hid hbp
  clear hw ho hT0 hq hS hbp hBA
  go_enter Try.func67, Try.ntmps67
  go_wp2_with fail
  refine HWO.out.mono ?_
  rintro e W1 ⟨⟨u, rfl⟩, hE, T, hT, hFl⟩
  have hbp1 := (hE.block w.heap.size (by simp) (by simp; omega)).trans HBP.out
  have hwk1 := HW.out.1.table hE HW.out.2.noCell
  have hKn : LwKn W1 wb mb l tv nv (.slice vo (duesT l).length vc) out := ⟨hwk1, T, hT, hFl⟩
  have hEw : Ext [mb] w W1 := (Ext.of_below (bgoAlloc (Below.refl _ _) _)).trans hE
  have HC := Lib.hid (contD (duesT l) (.slice vo (duesT l).length vc) 98 #[] #[.pointer (some ⟨w.heap.size, 0, none⟩)] (fun k => canPay l out ((duesT l).getD k [])) (fun _ W => Below W1.heap.size W1 W) W1 (duesT_three l)
    (enters_of Try.func98 (by kernel_rfl) rfl) (fun k W hW => hwk1.truth.below hW (Nat.le_refl _))
    (fun k hk W _ hW => by
      have hg : (duesT l).getD k [] = (duesT l)[k] := by simp [List.getD, hk]
      rw [hg]
      refine (poss1_any HS.out (List.getElem_mem hk) (hKn.below hW (Nat.le_refl _)) ((hW.block _ (Array.getElem?_eq_some_iff.1 hbp1).1).trans hbp1)).mono ?_
      rintro e W' ⟨rfl, hb⟩
      exact ⟨rfl, bgo hW hb⟩) (Below.refl _ _))
  obtain ⟨c1, f1, l1⟩ := cells_of_block hbp1
  obtain ⟨c2, f2, l2⟩ := cells_of_block hwk1.cells
  have HX := Lib.hid (And.intro hKn hEw)
  clear hE hT hFl hbp1 hwk1 hKn hEw
  obtain ⟨ls, hls⟩ : ∃ ls, duesT l = ls := ⟨_, rfl⟩
  rw [hls] at HC c2
  have HLS := Lib.hid hls
  clear hls
  go_wp2_with fail
  refine HC.out.mono ?_
  rintro e W2 ⟨k, hk, hno, ⟨hlt, hp, rfl, hB⟩ | ⟨hkl, rfl, hB⟩⟩
  · have hqt : q = true := by
      rw [← HQ.out]
      unfold possibleL
      rw [HLS.out, List.any_eq_true]
      exact ⟨ls.getD k [], by rw [show ls.getD k [] = ls[k] from by simp [List.getD, hlt]]; exact List.getElem_mem _, hp⟩
    have HF := Lib.hid (And.intro hqt hB)
    clear hno hp hB hqt
    go_wp2_with fail
    go_returns
    exact ⟨by rw [HF.out.1]; simp, HX.out.1.below HF.out.2 (Nat.le_refl _), HX.out.2.trans (Ext.of_below HF.out.2)⟩
  · have hqf : q = false := by
      rw [← HQ.out]
      unfold possibleL
      rw [HLS.out, List.any_eq_false]
      intro x hx
      obtain ⟨j, hj, rfl⟩ := List.getElem_of_mem hx
      have := hno j (by omega)
      simp only at this
      rw [show ls.getD j [] = ls[j] from by simp [List.getD, hj]] at this
      simp [this]
    have HF := Lib.hid (And.intro hqf hB)
    clear hno hB hqf
    go_wp2_with fail
    go_returns
    exact ⟨by rw [HF.out.1]; simp, HX.out.1.below HF.out.2 (Nat.le_refl _), HX.out.2.trans (Ext.of_below HF.out.2)⟩

end Go.Proofs.Ytdjgikcnmokjkaa

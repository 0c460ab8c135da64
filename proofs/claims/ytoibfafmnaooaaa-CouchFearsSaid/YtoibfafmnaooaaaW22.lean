/-
  Contracts of package couch, twenty-first part: slices of heats and of truths, searched by a function value.
-/
import Derived.WalkKit
import Derived.WalkLawsBesides
import Derived.WalkSpells
import Derived.Outline
import Derived.Handy
import Derived.KernelRfl
import Derived.Lib.Hide
import Derived.Test.YtoibfafmnaooaaaW21
namespace Go.Proofs.Ytoibfafmnaooaaa
open Go.RowKit Go.RG Go.SL Go.Shelf Cou
set_option maxHeartbeats 400000
set_option maxRecDepth 10000

/-- A slice of heats. -/
def HeatsAt (w : World) (v : Value) (ls : List (List Int)) : Prop := SlAt 10 w v ls.length (ls.flatMap intCells) ∧ ∀ x ∈ ls, x.length = 10
theorem HeatsAt.len {w : World} {v : Value} {ls : List (List Int)} (h : HeatsAt w v ls) : ls.length ≤ 9223372036854775807 := SlAt.len h.1
theorem HeatsAt.open {w : World} {v : Value} {ls : List (List Int)} (h : HeatsAt w v ls) : ∃ o c, v = .slice o ls.length c := SlAt.open h.1
theorem HeatsAt.below {w w' : World} {v : Value} {ls : List (List Int)} (h : HeatsAt w v ls) (hb : Below w.heap.size w w') : HeatsAt w' v ls := ⟨h.1.below hb (Nat.le_refl _), h.2⟩
theorem HeatsAt.cell {w : World} {o : Option Addr} {c : Nat} {ls : List (List Int)} (h : HeatsAt w (.slice o ls.length c) ls) {k : Nat} (hk : k < ls.length) :
    ∃ b off, o = some ⟨b, off, none⟩ ∧ b < w.heap.size ∧ w.rangeAt b (off + k * 10) (intCells ls[k]) := by
  obtain ⟨⟨hl, o', c', hv, h1, h2, h3, h4⟩, h10⟩ := h
  cases hv
  cases o with
  | none => have := h3 rfl; omega
  | some a =>
    obtain ⟨b, off, sp⟩ := a
    obtain ⟨hs, hc⟩ := h4 _ rfl
    simp only at hs hc
    subst hs
    have hat : ∀ j u, (intCells ls[k])[j]? = some u → w.cell? ⟨b, off + k * 10 + j, none⟩ = some u := fun j u hj => by
      have hj' : j < 10 := by have := (List.getElem?_eq_some_iff.1 hj).1; simpa [intCells, h10 _ (List.getElem_mem hk)] using this
      have := hc (k * 10 + j) u (by rw [flat_at' intCells 10 ls (fun x hx => by simp [intCells, h10 x hx]) k j hk hj']; exact hj)
      rw [← Nat.add_assoc] at this
      exact this
    have h0 : ls[k].length = 10 := h10 _ (List.getElem_mem hk)
    have := hat 0 (iv (ls[k][0]'(by omega))) (by simp [intCells])
    exact ⟨b, off, rfl, World.block_lt_of_cell? w _ this, hat⟩

theorem idxH (l : List (List Int)) (v : Value) (fid : Nat) (fst caps : Array Value) (p : Nat → Bool) (I : Nat → World → Prop) (w : World) (eg : ∀ args w, (callFunc fid args).run Try.prog w = .ok (.enter fid args) w)
    (hsl : ∀ k W, I k W → HeatsAt W v l)
    (hcall : ∀ k (hk : k < l.length) W, (∀ j, j < k → p j = false) → I k W → Calls Try.prog fid (fst.push (aggI l[k]) ++ caps) W (fun e W' => e = .returned (.bool (p k)) ∧ I (k + 1) W')) (h0 : I 0 w) :
    Calls Try.prog 115 #[v, .func (.func fid) fst caps] w (IdxPost l.length p I (fun k => iv k) (iv (-1))) := by
  have hlen := (hsl 0 w h0).len
  have h10 := (hsl 0 w h0).2
  obtain ⟨o, c, rfl⟩ := (hsl 0 w h0).open
  have HC := Lib.hid hcall
  have HS := Lib.hid hsl
  have HT := Lib.hid h10
  clear hcall hsl h10
  go_enter Try.func115, Try.ntmps115
  go_wp2
  go_loopw [4, 5, 8] (fun _ _ i wr => ∃ k : Nat, k ≤ l.length ∧ i = .int .i64 k ∧ (∀ j, j < k → p j = false) ∧ I k wr) (fun _ _ i _ => l.length - (intOf i).toNat)
  case atStart => exact ⟨0, Nat.zero_le _, rfl, fun j hj => by omega, h0⟩
  case round =>
    obtain ⟨k, hk, rfl, hno, hI⟩ := hrel
    by_cases hlt : k < l.length
    · obtain ⟨b, off, rfl, hb, hrng⟩ := HeatsAt.cell (HS.out k wr hI) hlt
      have hC := HC.out k hlt wr hno hI
      have hyl : (intCells l[k]).length = 10 := by simp [intCells, HT.out _ (List.getElem_mem hlt)]
      have hltI : (k : Int) < l.length := by omega
      have HN := Lib.hid hno
      clear hno
      generalize l[k] = ys at *
      go_wp2_with (refine wpList_load_mid rfl 127 _ rfl b (off + k * 10) rfl (intCells ys) _ hrng Try.underlying127 rfl (by rw [hyl]; kernel_rfl) ?_)
      refine hC.mono ?_
      rintro e W1 ⟨rfl, hI1⟩
      have HI := Lib.hid hI1
      clear hI1 hI hC
      cases hp : p k
      · go_wp2_with fail
        go_roundw
        case rel => exact ⟨k + 1, by omega, by go_num, fun j hj => (by by_cases e : j = k; (subst e; exact hp); exact HN.out j (by omega)), HI.out⟩
        case measure => simp [intOf]; omega
      · go_wp2_with fail
        go_returns
        exact ⟨k, by omega, HN.out, .inl ⟨hlt, hp, by simp, HI.out⟩⟩
    · have hkl : k = l.length := by omega
      have HN := Lib.hid hno
      clear hno
      go_wp2_with fail
      go_returns
      exact ⟨k, by omega, HN.out, .inr ⟨hkl, by simp, by subst hkl; exact hI⟩⟩

theorem contH (l : List (List Int)) (v : Value) (fid : Nat) (fst caps : Array Value) (p : Nat → Bool) (I : Nat → World → Prop) (w : World) (eg : ∀ args w, (callFunc fid args).run Try.prog w = .ok (.enter fid args) w)
    (hsl : ∀ k W, I k W → HeatsAt W v l)
    (hcall : ∀ k (hk : k < l.length) W, (∀ j, j < k → p j = false) → I k W → Calls Try.prog fid (fst.push (aggI l[k]) ++ caps) W (fun e W' => e = .returned (.bool (p k)) ∧ I (k + 1) W')) (h0 : I 0 w) :
    Calls Try.prog 86 #[v, .func (.func fid) fst caps] w (IdxPost l.length p I (fun _ => .bool true) (.bool false)) := by
  have HI := Lib.hid (idxH l v fid fst caps p I w eg hsl hcall h0)
  have hlen := (hsl 0 w h0).len
  clear hsl hcall h0 eg
  go_enter Try.func86, Try.ntmps86
  go_wp2_with fail
  refine HI.out.mono ?_
  clear HI
  rintro e W' ⟨k, hk, hno, ⟨hlt, hp, rfl, hI⟩ | ⟨hkl, rfl, hI⟩⟩
  · have HN := Lib.hid (And.intro hno (And.intro hp hI))
    clear hno hp hI
    go_wp2_with fail
    go_returns
    exact ⟨k, hk, HN.out.1, .inl ⟨hlt, HN.out.2.1, by simp, HN.out.2.2⟩⟩
  · have HN := Lib.hid (And.intro hno (And.intro hkl hI))
    clear hno hkl hI
    go_wp2_with fail
    go_returns
    exact ⟨k, hk, HN.out.1, .inr ⟨HN.out.2.1, by simp, HN.out.2.1 ▸ HN.out.2.2⟩⟩

theorem all1H (x : List Int) (h10 : x.length = 10) (bx fid : Nat) (fst caps : Array Value) (b : Bool) (W : World) (R : World → Prop) (eg : ∀ args w, (callFunc fid args).run Try.prog w = .ok (.enter fid args) w)
    (hbx : W.cell? ⟨bx, 0, none⟩ = some (.func (.func fid) fst caps))
    (hcall : Calls Try.prog fid (fst.push (aggI x) ++ caps) (W.alloc (.cells (intCells x).toArray 127)) (fun e W' => e = .returned (.bool b) ∧ R W')) :
    Calls Try.prog 113 #[aggI x, .pointer (some ⟨bx, 0, none⟩)] W (fun e W' => e = .returned (.bool !b) ∧ R W') := by
  have hlt := World.block_lt_of_cell? W _ hbx
  obtain ⟨y0, y1, y2, y3, y4, y5, y6, y7, y8, y9, rfl⟩ := ten_of h10
  have HC := Lib.hid hcall
  clear hcall
  show Calls Try.prog 113 #[.agg #[iv y0, iv y1, iv y2, iv y3, iv y4, iv y5, iv y6, iv y7, iv y8, iv y9], .pointer (some ⟨bx, 0, none⟩)] W _
  go_enter Try.func113, Try.ntmps113
  go_wp2_with fail
  refine HC.out.mono ?_
  rintro e W' ⟨rfl, hR⟩
  have HR := Lib.hid hR
  clear hR
  go_wp2_with fail
  go_returns
  exact ⟨by simp, HR.out⟩

theorem allH_pure (l : List (List Int)) (v : Value) (fid : Nat) (fst caps : Array Value) (q : List Int → Bool) (w : World) (hv : HeatsAt w v l) (eg : ∀ args w, (callFunc fid args).run Try.prog w = .ok (.enter fid args) w)
    (hcall : ∀ x ∈ l, ∀ W, Below w.heap.size w W → Calls Try.prog fid (fst.push (aggI x) ++ caps) W (PV (.bool (q x)) W)) :
    Calls Try.prog 84 #[v, .func (.func fid) fst caps] w (PV (.bool (l.all q)) w) := by
  have HI := Lib.hid (contH l v 113 #[] #[.pointer (some ⟨w.heap.size, 0, none⟩)] (fun k => !q (l.getD k []))
    (fun k W => Below w.heap.size w W ∧ W.heap[w.heap.size]? = some (.cells #[.func (.func fid) fst caps] 133 (0, 0))) (w.alloc (.cells #[.func (.func fid) fst caps] 133))
    (enters_of Try.func113 (by kernel_rfl) rfl) (fun k W h => hv.below h.1)
    (fun k hk W hno h => by
      have hlt : w.heap.size < W.heap.size := (Array.getElem?_eq_some_iff.1 h.2).1
      have hgd : l.getD k [] = l[k] := by simp [List.getD, hk]
      rw [hgd]
      refine (all1H l[k] (hv.2 _ (List.getElem_mem hk)) w.heap.size fid fst caps (q l[k]) W (fun W' => Below w.heap.size w W' ∧ W'.heap[w.heap.size]? = some (.cells #[.func (.func fid) fst caps] 133 (0, 0))) eg (cell_of_block0 h.2) ?_)
      refine (hcall l[k] (List.getElem_mem hk) _ (bgoAlloc h.1 _)).mono ?_
      rintro e W' ⟨rfl, hb⟩
      refine ⟨rfl, bgo (bgoAlloc h.1 _) hb, (hb.block _ (by simp; omega)).trans ((Below.heap_alloc _ _ _ hlt).trans h.2)⟩)
    ⟨bgoAlloc (Below.refl _ _) _, heap_alloc_new w _⟩)
  have hlen := hv.len
  obtain ⟨bb, hbb⟩ : ∃ bb, l.all q = bb := ⟨_, rfl⟩
  rw [hbb]
  have HQ : Hid (((List.range l.length).any fun k => !q (l.getD k [])) = !bb) := Lib.hid (by rw [← hbb, ← range_all l q [], List.all_eq_not_any_not]; simp)
  clear hcall eg hv hbb
  go_enter Try.func84, Try.ntmps84
  go_wp2_with fail
  refine HI.out.mono ?_
  clear HI
  intro e W' hpost
  obtain ⟨rfl, k, _, hI, _⟩ := hpost.all
  have HB := Lib.hid hI
  rw [HQ.out]
  clear hI hpost
  cases bb
  all_goals
    go_wp2_with fail
    go_returns
    exact ⟨by simp, HB.out⟩

theorem contH_pure (l : List (List Int)) (v : Value) (fid : Nat) (fst caps : Array Value) (q : List Int → Bool) (w : World) (hv : HeatsAt w v l) (eg : ∀ args w, (callFunc fid args).run Try.prog w = .ok (.enter fid args) w)
    (hcall : ∀ x ∈ l, ∀ W, Below w.heap.size w W → Calls Try.prog fid (fst.push (aggI x) ++ caps) W (PV (.bool (q x)) W)) :
    Calls Try.prog 86 #[v, .func (.func fid) fst caps] w (PV (.bool (l.any q)) w) := by
  refine (contH l v fid fst caps (fun k => q (l.getD k [])) (fun _ W => Below w.heap.size w W) w eg (fun k W h => hv.below h) (fun k hk W _ h => ?_) (Below.refl _ _)).mono ?_
  · have hgd : l.getD k [] = l[k] := by simp [List.getD, hk]
    rw [hgd]
    refine (hcall l[k] (List.getElem_mem _) W h).mono ?_
    rintro e W' ⟨rfl, hb⟩
    exact ⟨rfl, bgo h hb⟩
  · intro e W' hpost
    obtain ⟨rfl, k, _, hI⟩ := hpost.all
    refine ⟨?_, hI⟩
    have := range_all l (fun x => !q x) []
    have e2 : ((List.range l.length).any fun k => q (l.getD k [])) = l.any q := by
      rw [List.any_eq_not_all_not, this, List.any_eq_not_all_not]
    rw [e2]
    cases l.any q <;> rfl

end Go.Proofs.Ytoibfafmnaooaaa

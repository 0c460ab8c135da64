/-
  Contracts of package weed, first part: small functions, and the error of a field.
-/
import Derived.WalkKit
import Derived.WalkLawsBesides
import Derived.WalkSpells
import Derived.Outline
import Derived.Handy
import Derived.KernelRfl
import Derived.Lib.Hide
import Derived.Test.YtdjgikcnmokjkaaTB
import Derived.Test.YtdjgikcnmokjkaaVA
namespace Go.Proofs.Ytdjgikcnmokjkaa
open Go.RowKit Go.RG Go.SL Go.Shelf Cou Go.TB
set_option maxHeartbeats 400000
set_option maxRecDepth 10000

/-- A tally, a field by value. -/
abbrev tlyv (t : Tly) : Value := .agg #[iv t.1, iv t.2.1, iv t.2.2.1, iv t.2.2.2.1, iv t.2.2.2.2]
abbrev fv (f : FieldD) (tv : Value) : Value := .agg #[iv f.rows, iv f.weeders, iv f.left.1, iv f.left.2, tv]

def tlyCells (l : List Tly) : List Value := l.flatMap fun t => [iv t.1, iv t.2.1, iv t.2.2.1, iv t.2.2.2.1, iv t.2.2.2.2]
abbrev TalliesAt (w : World) (v : Value) (l : List Tly) : Prop := SlAt 5 w v l.length (tlyCells l)

theorem one_tallies (l : List Tly) : ∀ u ∈ tlyCells l, u.oneCell' = true := by
  intro u hu
  obtain ⟨r, _, h⟩ := List.mem_flatMap.1 hu
  simp only [List.mem_cons, List.not_mem_nil, or_false] at h
  rcases h with rfl | rfl | rfl | rfl | rfl <;> rfl

theorem TalliesAt.cell {w : World} {o : Option Addr} {n c : Nat} {l : List Tly} (h : SlAt 5 w (.slice o n c) n (tlyCells l)) {k : Nat} (hk : k < l.length) :
    ∃ b off, o = some ⟨b, off, none⟩ ∧ b < w.heap.size ∧ w.cell? ⟨b, off + k * 5, none⟩ = some (iv l[k].1) ∧ w.cell? ⟨b, off + k * 5 + 1, none⟩ = some (iv l[k].2.1) ∧ w.cell? ⟨b, off + k * 5 + 2, none⟩ = some (iv l[k].2.2.1) ∧
      w.cell? ⟨b, off + k * 5 + 3, none⟩ = some (iv l[k].2.2.2.1) ∧ w.cell? ⟨b, off + k * 5 + 4, none⟩ = some (iv l[k].2.2.2.2) := by
  obtain ⟨hl, o', c', hv, h1, h2, h3, h4⟩ := h
  cases hv
  have hlen : (tlyCells l).length = l.length * 5 := by simp [tlyCells, List.length_flatMap, List.map_const', List.sum_replicate_nat]
  have hn : n = l.length := by omega
  cases o with
  | none => have := h3 rfl; omega
  | some a =>
    obtain ⟨b, off, sp⟩ := a
    obtain ⟨hs, hc⟩ := h4 _ rfl
    simp only at hs hc
    subst hs
    have g : ∀ j, j < 5 → (tlyCells l)[k * 5 + j]? = [iv l[k].1, iv l[k].2.1, iv l[k].2.2.1, iv l[k].2.2.2.1, iv l[k].2.2.2.2][j]? := fun j hj => by
      unfold tlyCells; rw [flat_get _ 5 (fun _ => rfl) l k j hk hj]
    have h0 := hc (k * 5 + 0) (iv l[k].1) (by rw [g 0 (by omega)]; rfl)
    have h1 := hc (k * 5 + 1) (iv l[k].2.1) (by rw [g 1 (by omega)]; rfl)
    have h2 := hc (k * 5 + 2) (iv l[k].2.2.1) (by rw [g 2 (by omega)]; rfl)
    have h3 := hc (k * 5 + 3) (iv l[k].2.2.2.1) (by rw [g 3 (by omega)]; rfl)
    have h4 := hc (k * 5 + 4) (iv l[k].2.2.2.2) (by rw [g 4 (by omega)]; rfl)
    rw [Nat.add_zero] at h0
    rw [← Nat.add_assoc] at h1 h2 h3 h4
    exact ⟨b, off, rfl, World.block_lt_of_cell? w _ h0, h0, h1, h2, h3, h4⟩

theorem wwithin_any (n l h : Int) (w : World) : Calls Try.prog 82 #[iv n, iv l, iv h] w (PV (.bool (inB n l h)) w) := by
  by_cases h1 : l ≤ n
  all_goals
    go_enter Try.func82, Try.ntmps82
    go_wp2
    go_returns
    exact ⟨by simp [inB]; omega, Below.refl _ _⟩

theorem whas_any (r : Rng) (n : Int) (w : World) : Calls Try.prog 90 #[rv r, iv n] w (PV (.bool (inB n r.1 r.2)) w) := by
  go_enter Try.func90, Try.ntmps90
  go_wp2_with (go_at_call 82; refine (wwithin_any _ _ _ _).mono ?_; rintro e w' ⟨rfl, hb⟩)
  go_returns
  exact ⟨by simp, (Below.refl _ _).alloc (Nat.le_refl _) _ |>.trans (hb.mono (by simp))⟩

theorem frows_any (f : FieldD) (tv : Value) (r : Rng) (w : World) : Calls Try.prog 85 #[fv f tv, rv r] w (PV (.bool (okR r f.rows)) w) := by
  go_enter Try.func85, Try.ntmps85
  go_wp2
  all_goals
    go_returns
    exact ⟨by simp [okR]; omega, by go_grown⟩

theorem isRow_any (f : FieldD) (tv : Value) (n : Int) (w : World) (h0 : -1000 ≤ f.rows) (h1 : f.rows ≤ 1000) : Calls Try.prog 51 #[fv f tv, iv n] w (PV (.bool (inB n 0 (f.rows - 1))) w) := by
  go_enter Try.func51, Try.ntmps51
  go_wp2_with (go_at_call 82; refine (wwithin_any _ _ _ _).mono ?_; rintro e w' ⟨rfl, hb⟩)
  go_returns
  exact ⟨by simp, (Below.refl _ _).alloc (Nat.le_refl _) _ |>.trans (hb.mono (by simp))⟩

theorem isWeeder_any (f : FieldD) (tv : Value) (n : Int) (w : World) (h0 : -1000 ≤ f.weeders) (h1 : f.weeders ≤ 1000) : Calls Try.prog 46 #[fv f tv, iv n] w (PV (.bool (inB n 0 (f.weeders - 1))) w) := by
  go_enter Try.func46, Try.ntmps46
  go_wp2_with (go_at_call 82; refine (wwithin_any _ _ _ _).mono ?_; rintro e w' ⟨rfl, hb⟩)
  go_returns
  exact ⟨by simp, (Below.refl _ _).alloc (Nat.le_refl _) _ |>.trans (hb.mono (by simp))⟩

theorem tally_any (f : FieldD) (tv : Value) (t : Tly) (w : World) (h0 : 0 ≤ f.rows) (h1 : f.rows ≤ 1000) (h2 : 0 ≤ f.weeders) (h3 : f.weeders ≤ 1000) :
    Calls Try.prog 84 #[fv f tv, tlyv t] w (PV (.bool (okTally f t)) w) := by
  go_enter Try.func84, Try.ntmps84
  go_wp2_with (first | (go_at_call 46; refine (isWeeder_any f _ _ _ (by omega) (by omega)).mono ?_; rintro e w' ⟨rfl, hb⟩; obtain ⟨hc, hf⟩ := bcell hb; have hz0 : w.heap.size < w'.heap.size := (by have := hb.size; (try simp only [World.size_alloc] at this); omega); have hz1 : w.heap.size + 1 < w'.heap.size := (by have := hb.size; (try simp only [World.size_alloc] at this); omega)) | (go_at_call 51; refine (isRow_any f _ _ _ (by omega) (by omega)).mono ?_; rintro e w' ⟨rfl, hb⟩; obtain ⟨hc, hf⟩ := bcell hb; have hz0 : w.heap.size < w'.heap.size := (by have := hb.size; (try simp only [World.size_alloc] at this); omega); have hz1 : w.heap.size + 1 < w'.heap.size := (by have := hb.size; (try simp only [World.size_alloc] at this); omega)) | (go_at_call 85; refine (frows_any f _ (_, _) _).mono ?_; rintro e w' ⟨rfl, hb⟩; obtain ⟨hc, hf⟩ := bcell hb; have hz0 : w.heap.size < w'.heap.size := (by have := hb.size; (try simp only [World.size_alloc] at this); omega); have hz1 : w.heap.size + 1 < w'.heap.size := (by have := hb.size; (try simp only [World.size_alloc] at this); omega)))
  all_goals
    go_returns
    exact ⟨by simp [okTally, *] <;> (intros; omega), (by repeat (first | exact Below.refl _ _ | assumption | refine bgo ?_ (by assumption) | refine bgoAlloc ?_ _ | refine bgoDrew ?_ | refine bgoSet ?_ (by simp; omega) _))⟩

end Go.Proofs.Ytdjgikcnmokjkaa

namespace Go.Proofs.Ytdjgikcnmokjkaa
open Go.RowKit Go.RG Go.SL Go.Shelf Cou Go.TB
set_option maxHeartbeats 400000
set_option maxRecDepth 10000

theorem idxT (l : List Tly) (v : Value) (fid : Nat) (fst caps : Array Value) (p : Nat → Bool) (I : Nat → World → Prop) (w : World) (eg : ∀ args w, (callFunc fid args).run Try.prog w = .ok (.enter fid args) w)
    (hsl : ∀ k W, I k W → TalliesAt W v l)
    (hcall : ∀ k (hk : k < l.length) W, (∀ j, j < k → p j = false) → I k W → Calls Try.prog fid (fst.push (tlyv l[k]) ++ caps) W (fun e W' => e = .returned (.bool (p k)) ∧ I (k + 1) W')) (h0 : I 0 w) :
    Calls Try.prog 116 #[v, .func (.func fid) fst caps] w (IdxPost l.length p I (fun k => iv k) (iv (-1))) := by
  have hlen := (hsl 0 w h0).len
  obtain ⟨o, c, rfl⟩ := (hsl 0 w h0).open
  have HC := Lib.hid hcall
  have HS := Lib.hid hsl
  clear hcall hsl
  go_enter Try.func116, Try.ntmps116
  go_wp2
  go_loopw [4, 5, 8] (fun _ _ i wr => ∃ k : Nat, k ≤ l.length ∧ i = .int .i64 k ∧ (∀ j, j < k → p j = false) ∧ I k wr) (fun _ _ i _ => l.length - (intOf i).toNat)
  case atStart => exact ⟨0, Nat.zero_le _, rfl, fun j hj => by omega, h0⟩
  case round =>
    obtain ⟨k, hk, rfl, hno, hI⟩ := hrel
    by_cases hlt : k < l.length
    · obtain ⟨b, off, rfl, hb, hc0, hc1, hc2, hc3, hc4⟩ := TalliesAt.cell (HS.out k wr hI) hlt
      have hC := HC.out k hlt wr hno hI
      have HN := Lib.hid hno
      clear hno
      go_wp2_with fail
      refine hC.mono ?_
      rintro e W1 ⟨rfl, hI1⟩
      have HI := Lib.hid hI1
      clear hI1 hI hC
      cases hp : p k
      · go_wp2_with fail
        go_roundw
        case rel => exact ⟨k + 1, by omega, by go_num, fun j hj => (by by_cases e : j = k; (subst e; exact hp); exact HN.out j (by omega)), HI.out⟩
        case measure => simp [intOf]; omega
      · go_wp2_with fail
        go_returns
        exact ⟨k, by omega, HN.out, .inl ⟨hlt, hp, by simp, HI.out⟩⟩
    · have hkl : k = l.length := by omega
      have HN := Lib.hid hno
      clear hno
      go_wp2_with fail
      go_returns
      exact ⟨k, by omega, HN.out, .inr ⟨hkl, by simp, by subst hkl; exact hI⟩⟩

theorem contT (l : List Tly) (v : Value) (fid : Nat) (fst caps : Array Value) (p : Nat → Bool) (I : Nat → World → Prop) (w : World) (eg : ∀ args w, (callFunc fid args).run Try.prog w = .ok (.enter fid args) w)
    (hsl : ∀ k W, I k W → TalliesAt W v l)
    (hcall : ∀ k (hk : k < l.length) W, (∀ j, j < k → p j = false) → I k W → Calls Try.prog fid (fst.push (tlyv l[k]) ++ caps) W (fun e W' => e = .returned (.bool (p k)) ∧ I (k + 1) W')) (h0 : I 0 w) :
    Calls Try.prog 108 #[v, .func (.func fid) fst caps] w (IdxPost l.length p I (fun _ => .bool true) (.bool false)) := by
  have HI := Lib.hid (idxT l v fid fst caps p I w eg hsl hcall h0)
  have hlen := (hsl 0 w h0).len
  clear hsl hcall h0 eg
  go_enter Try.func108, Try.ntmps108
  go_wp2_with fail
  refine HI.out.mono ?_
  clear HI
  rintro e W' ⟨k, hk, hno, ⟨hlt, hp, rfl, hI⟩ | ⟨hkl, rfl, hI⟩⟩
  · have HN := Lib.hid (And.intro hno (And.intro hp hI))
    clear hno hp hI
    go_wp2_with fail
    go_returns
    exact ⟨k, hk, HN.out.1, .inl ⟨hlt, HN.out.2.1, by simp, HN.out.2.2⟩⟩
  · have HN := Lib.hid (And.intro hno (And.intro hkl hI))
    clear hno hkl hI
    go_wp2_with fail
    go_returns
    exact ⟨k, hk, HN.out.1, .inr ⟨HN.out.2.1, by simp, HN.out.2.1 ▸ HN.out.2.2⟩⟩

theorem all1T (x : Tly) (bx fid : Nat) (fst caps : Array Value) (b : Bool) (W : World) (R : World → Prop) (eg : ∀ args w, (callFunc fid args).run Try.prog w = .ok (.enter fid args) w)
    (hbx : W.cell? ⟨bx, 0, none⟩ = some (.func (.func fid) fst caps))
    (hcall : Calls Try.prog fid (fst.push (tlyv x) ++ caps) (W.alloc (.cells #[iv x.1, iv x.2.1, iv x.2.2.1, iv x.2.2.2.1, iv x.2.2.2.2] 77)) (fun e W' => e = .returned (.bool b) ∧ R W')) :
    Calls Try.prog 109 #[tlyv x, .pointer (some ⟨bx, 0, none⟩)] W (fun e W' => e = .returned (.bool !b) ∧ R W') := by
  have hlt := World.block_lt_of_cell? W _ hbx
  have HC := Lib.hid hcall
  clear hcall
  go_enter Try.func109, Try.ntmps109
  go_wp2_with fail
  refine HC.out.mono ?_
  rintro e W' ⟨rfl, hR⟩
  have HR := Lib.hid hR
  clear hR
  go_wp2_with fail
  go_returns
  exact ⟨by simp, HR.out⟩

theorem wall1I (x : Int) (bx fid : Nat) (fst caps : Array Value) (b : Bool) (W : World) (R : World → Prop) (eg : ∀ args w, (callFunc fid args).run Try.prog w = .ok (.enter fid args) w)
    (hbx : W.cell? ⟨bx, 0, none⟩ = some (.func (.func fid) fst caps))
    (hcall : Calls Try.prog fid (fst.push (iv x) ++ caps) W (fun e W' => e = .returned (.bool b) ∧ R W')) :
    Calls Try.prog 88 #[iv x, .pointer (some ⟨bx, 0, none⟩)] W (fun e W' => e = .returned (.bool !b) ∧ R W') := by
  have hlt := World.block_lt_of_cell? W _ hbx
  have HC := Lib.hid hcall
  clear hcall
  go_enter Try.func88, Try.ntmps88
  go_wp2_with fail
  refine HC.out.mono ?_
  rintro e W' ⟨rfl, hR⟩
  have HR := Lib.hid hR
  clear hR
  go_wp2_with fail
  go_returns
  exact ⟨by simp, HR.out⟩

theorem allT (l : List Tly) (v : Value) (fid : Nat) (fst caps : Array Value) (p : Nat → Bool) (I : Nat → World → Prop) (w : World) (eg : ∀ args w, (callFunc fid args).run Try.prog w = .ok (.enter fid args) w)
    (hsl : ∀ k W, I k W → TalliesAt W v l) (hal : ∀ k W o, I k W → I k (W.alloc o))
    (hcall : ∀ k (hk : k < l.length) W, (∀ j, j < k → p j = true) → I k W → Calls Try.prog fid (fst.push (tlyv l[k]) ++ caps) W (fun e W' => e = .returned (.bool (p k)) ∧ I (k + 1) W' ∧ FromOn w.heap.size W W')) (h0 : I 0 w) :
    Calls Try.prog 86 #[v, .func (.func fid) fst caps] w (IdxPost l.length (fun k => !p k) I (fun _ => .bool false) (.bool true)) := by
  have HI := Lib.hid (contT l v 109 #[] #[.pointer (some ⟨w.heap.size, 0, none⟩)] (fun k => !p k)
    (fun k W => I k W ∧ W.heap[w.heap.size]? = some (.cells #[.func (.func fid) fst caps] 140 (0, 0))) (w.alloc (.cells #[.func (.func fid) fst caps] 140))
    (enters_of Try.func109 (by kernel_rfl) rfl) (fun k W h => hsl k W h.1)
    (fun k hk W hno h => by
      have hlt : w.heap.size < W.heap.size := (Array.getElem?_eq_some_iff.1 h.2).1
      refine (all1T l[k] w.heap.size fid fst caps (p k) W (fun W' => I (k + 1) W' ∧ W'.heap[w.heap.size]? = some (.cells #[.func (.func fid) fst caps] 140 (0, 0))) eg (cell_of_block0 h.2) ?_)
      refine (hcall k hk _ (fun j hj => by simpa using hno j hj) (by first | exact hal _ _ _ h.1 | exact h.1)).mono ?_
      rintro e W' ⟨rfl, h1, h2⟩
      refine ⟨rfl, h1, (h2.block _ (Nat.le_refl _) (by first | exact hlt | (simp; omega))).trans (by first | exact h.2 | exact (Below.heap_alloc _ _ _ hlt).trans h.2)⟩)
    ⟨hal _ _ _ h0, heap_alloc_new w _⟩)
  have hlen := (hsl 0 w h0).len
  clear hsl hcall h0 eg hal
  go_enter Try.func86, Try.ntmps86
  go_wp2_with fail
  refine HI.out.mono ?_
  clear HI
  rintro e W' ⟨k, hk, hno, ⟨hlt, hp, rfl, hI, _⟩ | ⟨hkl, rfl, hI, _⟩⟩
  · have HN := Lib.hid (And.intro hno (And.intro hp hI))
    clear hno hp hI
    go_wp2_with fail
    go_returns
    exact ⟨k, hk, HN.out.1, .inl ⟨hlt, HN.out.2.1, by simp, HN.out.2.2⟩⟩
  · have HN := Lib.hid (And.intro hno (And.intro hkl hI))
    clear hno hkl hI
    go_wp2_with fail
    go_returns
    exact ⟨k, hk, HN.out.1, .inr ⟨HN.out.2.1, by simp, HN.out.2.1 ▸ HN.out.2.2⟩⟩

theorem wallI (l : List Int) (v : Value) (fid : Nat) (fst caps : Array Value) (p : Nat → Bool) (I : Nat → World → Prop) (w : World) (eg : ∀ args w, (callFunc fid args).run Try.prog w = .ok (.enter fid args) w)
    (hsl : ∀ k W, I k W → IntsAt W v l) (hal : ∀ k W o, I k W → I k (W.alloc o))
    (hcall : ∀ k (hk : k < l.length) W, (∀ j, j < k → p j = true) → I k W → Calls Try.prog fid (fst.push (iv l[k]) ++ caps) W (fun e W' => e = .returned (.bool (p k)) ∧ I (k + 1) W' ∧ FromOn w.heap.size W W')) (h0 : I 0 w) :
    Calls Try.prog 53 #[v, .func (.func fid) fst caps] w (IdxPost l.length (fun k => !p k) I (fun _ => .bool false) (.bool true)) := by
  have HI := Lib.hid (contI l v 88 #[] #[.pointer (some ⟨w.heap.size, 0, none⟩)] (fun k => !p k)
    (fun k W => I k W ∧ W.heap[w.heap.size]? = some (.cells #[.func (.func fid) fst caps] 98 (0, 0))) (w.alloc (.cells #[.func (.func fid) fst caps] 98))
    (enters_of Try.func88 (by kernel_rfl) rfl) (fun k W h => hsl k W h.1)
    (fun k hk W hno h => by
      have hlt : w.heap.size < W.heap.size := (Array.getElem?_eq_some_iff.1 h.2).1
      refine (wall1I l[k] w.heap.size fid fst caps (p k) W (fun W' => I (k + 1) W' ∧ W'.heap[w.heap.size]? = some (.cells #[.func (.func fid) fst caps] 98 (0, 0))) eg (cell_of_block0 h.2) ?_)
      refine (hcall k hk _ (fun j hj => by simpa using hno j hj) (by first | exact hal _ _ _ h.1 | exact h.1)).mono ?_
      rintro e W' ⟨rfl, h1, h2⟩
      refine ⟨rfl, h1, (h2.block _ (Nat.le_refl _) (by first | exact hlt | (simp; omega))).trans (by first | exact h.2 | exact (Below.heap_alloc _ _ _ hlt).trans h.2)⟩)
    ⟨hal _ _ _ h0, heap_alloc_new w _⟩)
  have hlen := (hsl 0 w h0).len
  clear hsl hcall h0 eg hal
  go_enter Try.func53, Try.ntmps53
  go_wp2_with fail
  refine HI.out.mono ?_
  clear HI
  rintro e W' ⟨k, hk, hno, ⟨hlt, hp, rfl, hI, _⟩ | ⟨hkl, rfl, hI, _⟩⟩
  · have HN := Lib.hid (And.intro hno (And.intro hp hI))
    clear hno hp hI
    go_wp2_with fail
    go_returns
    exact ⟨k, hk, HN.out.1, .inl ⟨hlt, HN.out.2.1, by simp, HN.out.2.2⟩⟩
  · have HN := Lib.hid (And.intro hno (And.intro hkl hI))
    clear hno hkl hI
    go_wp2_with fail
    go_returns
    exact ⟨k, hk, HN.out.1, .inr ⟨HN.out.2.1, by simp, HN.out.2.1 ▸ HN.out.2.2⟩⟩

theorem allT_pure (l : List Tly) (v : Value) (fid : Nat) (fst caps : Array Value) (q : Tly → Bool) (w : World) (hv : TalliesAt w v l) (eg : ∀ args w, (callFunc fid args).run Try.prog w = .ok (.enter fid args) w)
    (hcall : ∀ x ∈ l, ∀ W, Below w.heap.size w W → Calls Try.prog fid (fst.push (tlyv x) ++ caps) W (PV (.bool (q x)) W)) :
    Calls Try.prog 86 #[v, .func (.func fid) fst caps] w (PV (.bool (l.all q)) w) := by
  refine (allT l v fid fst caps (fun k => q (l.getD k (0, 0, 0, (0, 0)))) (fun _ W => Below w.heap.size w W) w eg (fun k W h => hv.below h (Nat.le_refl _)) (fun k W o h => bgoAlloc h o) (fun k hk W _ h => ?_) (Below.refl _ _)).mono ?_
  · refine (hcall l[k] (List.getElem_mem _) W h).mono ?_
    rintro e W' ⟨rfl, hb⟩
    exact ⟨by simp [hk], bgo h hb, FromOn.of_below hb⟩
  · intro e W' hpost
    obtain ⟨rfl, k, _, hI⟩ := hpost.all
    refine ⟨?_, hI⟩
    rw [all_of_any, range_all]

theorem wallI_pure (l : List Int) (v : Value) (fid : Nat) (fst caps : Array Value) (q : Int → Bool) (w : World) (hv : IntsAt w v l) (eg : ∀ args w, (callFunc fid args).run Try.prog w = .ok (.enter fid args) w)
    (hcall : ∀ x ∈ l, ∀ W, Below w.heap.size w W → Calls Try.prog fid (fst.push (iv x) ++ caps) W (PV (.bool (q x)) W)) :
    Calls Try.prog 53 #[v, .func (.func fid) fst caps] w (PV (.bool (l.all q)) w) := by
  refine (wallI l v fid fst caps (fun k => q (l.getD k 0)) (fun _ W => Below w.heap.size w W) w eg (fun k W h => hv.below h (Nat.le_refl _)) (fun k W o h => bgoAlloc h o) (fun k hk W _ h => ?_) (Below.refl _ _)).mono ?_
  · refine (hcall l[k] (List.getElem_mem _) W h).mono ?_
    rintro e W' ⟨rfl, hb⟩
    exact ⟨by simp [hk], bgo h hb, FromOn.of_below hb⟩
  · intro e W' hpost
    obtain ⟨rfl, k, _, hI⟩ := hpost.all
    refine ⟨?_, hI⟩
    rw [all_of_any, range_all]

end Go.Proofs.Ytdjgikcnmokjkaa

/-
  Contracts of package weed, first part: small functions, and the error of a field.
  Contracts of package weed, second part: the error of a field; how many rows somebody did.
  Contracts of package weed, third part: how many rows somebody did.
  Keys: arrays of numbers and structs of numbers as keys of tables; arrays compared; a load from the middle of memory.
  Contracts of package weed, fourth part: whether all tallies but some are right.
-/
import Derived.WalkKit
import Derived.WalkLawsBesides
import Derived.WalkSpells
import Derived.Outline
import Derived.Handy
import Derived.KernelRfl
import Derived.Lib.Hide
import Derived.Test.YtechgmnkcijahaaTB
import Derived.Test.YtechgmnkcijahaaVA
import Derived.Deep.Cut
namespace Go.Proofs.Ytechgmnkcijahaa
open Go.RowKit Go.RG Go.SL Go.Shelf Cou Go.TB
set_option maxHeartbeats 400000
set_option maxRecDepth 10000

/-- A tally, a field by value. -/
abbrev tlyv (t : Tly) : Value := .agg #[iv t.1, iv t.2.1, iv t.2.2.1, iv t.2.2.2.1, iv t.2.2.2.2]
abbrev fv (f : FieldD) (tv : Value) : Value := .agg #[iv f.rows, iv f.weeders, iv f.left.1, iv f.left.2, tv]

def tlyCells (l : List Tly) : List Value := l.flatMap fun t => [iv t.1, iv t.2.1, iv t.2.2.1, iv t.2.2.2.1, iv t.2.2.2.2]
abbrev TalliesAt (w : World) (v : Value) (l : List Tly) : Prop := SlAt 5 w v l.length (tlyCells l)

theorem one_tallies (l : List Tly) : ∀ u ∈ tlyCells l, u.oneCell' = true := by
  intro u hu
  obtain ⟨r, _, h⟩ := List.mem_flatMap.1 hu
  simp only [List.mem_cons, List.not_mem_nil, or_false] at h
  rcases h with rfl | rfl | rfl | rfl | rfl <;> rfl

theorem TalliesAt.cell {w : World} {o : Option Addr} {n c : Nat} {l : List Tly} (h : SlAt 5 w (.slice o n c) n (tlyCells l)) {k : Nat} (hk : k < l.length) :
    ∃ b off, o = some ⟨b, off, none⟩ ∧ b < w.heap.size ∧ w.cell? ⟨b, off + k * 5, none⟩ = some (iv l[k].1) ∧ w.cell? ⟨b, off + k * 5 + 1, none⟩ = some (iv l[k].2.1) ∧ w.cell? ⟨b, off + k * 5 + 2, none⟩ = some (iv l[k].2.2.1) ∧
      w.cell? ⟨b, off + k * 5 + 3, none⟩ = some (iv l[k].2.2.2.1) ∧ w.cell? ⟨b, off + k * 5 + 4, none⟩ = some (iv l[k].2.2.2.2) := by
  obtain ⟨hl, o', c', hv, h1, h2, h3, h4⟩ := h
  cases hv
  have hlen : (tlyCells l).length = l.length * 5 := by simp [tlyCells, List.length_flatMap, List.map_const', List.sum_replicate_nat]
  have hn : n = l.length := by omega
  cases o with
  | none => have := h3 rfl; omega
  | some a =>
    obtain ⟨b, off, sp⟩ := a
    obtain ⟨hs, hc⟩ := h4 _ rfl
    simp only at hs hc
    subst hs
    have g : ∀ j, j < 5 → (tlyCells l)[k * 5 + j]? = [iv l[k].1, iv l[k].2.1, iv l[k].2.2.1, iv l[k].2.2.2.1, iv l[k].2.2.2.2][j]? := fun j hj => by
      unfold tlyCells; rw [flat_get _ 5 (fun _ => rfl) l k j hk hj]
    have h0 := hc (k * 5 + 0) (iv l[k].1) (by rw [g 0 (by omega)]; rfl)
    have h1 := hc (k * 5 + 1) (iv l[k].2.1) (by rw [g 1 (by omega)]; rfl)
    have h2 := hc (k * 5 + 2) (iv l[k].2.2.1) (by rw [g 2 (by omega)]; rfl)
    have h3 := hc (k * 5 + 3) (iv l[k].2.2.2.1) (by rw [g 3 (by omega)]; rfl)
    have h4 := hc (k * 5 + 4) (iv l[k].2.2.2.2) (by rw [g 4 (by omega)]; rfl)
    rw [Nat.add_zero] at h0
    rw [← Nat.add_assoc] at h1 h2 h3 h4
    exact ⟨b, off, rfl, World.block_lt_of_cell? w _ h0, h0, h1, h2, h3, h4⟩

theorem wwithin_any (n l h : Int) (w : World) : Calls Try.prog 79 #[iv n, iv l, iv h] w (PV (.bool (inB n l h)) w) := by
  by_cases h1 : l ≤ n
  all_goals
    go_enter Try.func79, Try.ntmps79
    go_wp2
    go_returns
    exact ⟨by simp [inB]; omega, Below.refl _ _⟩

theorem whas_any (r : Rng) (n : Int) (w : World) : Calls Try.prog 81 #[rv r, iv n] w (PV (.bool (inB n r.1 r.2)) w) := by
  go_enter Try.func81, Try.ntmps81
  go_wp2_with (go_at_call 79; refine (wwithin_any _ _ _ _).mono ?_; rintro e w' ⟨rfl, hb⟩)
  go_returns
  exact ⟨by simp, (Below.refl _ _).alloc (Nat.le_refl _) _ |>.trans (hb.mono (by simp))⟩

theorem frows_any (f : FieldD) (tv : Value) (r : Rng) (w : World) : Calls Try.prog 75 #[fv f tv, rv r] w (PV (.bool (okR r f.rows)) w) := by
  go_enter Try.func75, Try.ntmps75
  go_wp2
  all_goals
    go_returns
    exact ⟨by simp [okR]; omega, by go_grown⟩

theorem isRow_any (f : FieldD) (tv : Value) (n : Int) (w : World) (h0 : -1000 ≤ f.rows) (h1 : f.rows ≤ 1000) : Calls Try.prog 84 #[fv f tv, iv n] w (PV (.bool (inB n 0 (f.rows - 1))) w) := by
  go_enter Try.func84, Try.ntmps84
  go_wp2_with (go_at_call 79; refine (wwithin_any _ _ _ _).mono ?_; rintro e w' ⟨rfl, hb⟩)
  go_returns
  exact ⟨by simp, (Below.refl _ _).alloc (Nat.le_refl _) _ |>.trans (hb.mono (by simp))⟩

theorem isWeeder_any (f : FieldD) (tv : Value) (n : Int) (w : World) (h0 : -1000 ≤ f.weeders) (h1 : f.weeders ≤ 1000) : Calls Try.prog 59 #[fv f tv, iv n] w (PV (.bool (inB n 0 (f.weeders - 1))) w) := by
  go_enter Try.func59, Try.ntmps59
  go_wp2_with (go_at_call 79; refine (wwithin_any _ _ _ _).mono ?_; rintro e w' ⟨rfl, hb⟩)
  go_returns
  exact ⟨by simp, (Below.refl _ _).alloc (Nat.le_refl _) _ |>.trans (hb.mono (by simp))⟩

theorem tally_any (f : FieldD) (tv : Value) (t : Tly) (w : World) (h0 : 0 ≤ f.rows) (h1 : f.rows ≤ 1000) (h2 : 0 ≤ f.weeders) (h3 : f.weeders ≤ 1000) :
    Calls Try.prog 74 #[fv f tv, tlyv t] w (PV (.bool (okTally f t)) w) := by
  go_enter Try.func74, Try.ntmps74
  go_wp2_with (first | (go_at_call 59; refine (isWeeder_any f _ _ _ (by omega) (by omega)).mono ?_; rintro e w' ⟨rfl, hb⟩; obtain ⟨hc, hf⟩ := bcell hb; have hz0 : w.heap.size < w'.heap.size := (by have := hb.size; (try simp only [World.size_alloc] at this); omega); have hz1 : w.heap.size + 1 < w'.heap.size := (by have := hb.size; (try simp only [World.size_alloc] at this); omega)) | (go_at_call 84; refine (isRow_any f _ _ _ (by omega) (by omega)).mono ?_; rintro e w' ⟨rfl, hb⟩; obtain ⟨hc, hf⟩ := bcell hb; have hz0 : w.heap.size < w'.heap.size := (by have := hb.size; (try simp only [World.size_alloc] at this); omega); have hz1 : w.heap.size + 1 < w'.heap.size := (by have := hb.size; (try simp only [World.size_alloc] at this); omega)) | (go_at_call 75; refine (frows_any f _ (_, _) _).mono ?_; rintro e w' ⟨rfl, hb⟩; obtain ⟨hc, hf⟩ := bcell hb; have hz0 : w.heap.size < w'.heap.size := (by have := hb.size; (try simp only [World.size_alloc] at this); omega); have hz1 : w.heap.size + 1 < w'.heap.size := (by have := hb.size; (try simp only [World.size_alloc] at this); omega)))
  all_goals
    go_returns
    exact ⟨by simp [okTally, *] <;> (intros; omega), (by repeat (first | exact Below.refl _ _ | assumption | refine bgo ?_ (by assumption) | refine bgoAlloc ?_ _ | refine bgoDrew ?_ | refine bgoSet ?_ (by simp; omega) _))⟩

end Go.Proofs.Ytechgmnkcijahaa

namespace Go.Proofs.Ytechgmnkcijahaa
open Go.RowKit Go.RG Go.SL Go.Shelf Cou Go.TB
set_option maxHeartbeats 400000
set_option maxRecDepth 10000

theorem idxT (l : List Tly) (v : Value) (fid : Nat) (fst caps : Array Value) (p : Nat → Bool) (I : Nat → World → Prop) (w : World) (eg : ∀ args w, (callFunc fid args).run Try.prog w = .ok (.enter fid args) w)
    (hsl : ∀ k W, I k W → TalliesAt W v l)
    (hcall : ∀ k (hk : k < l.length) W, (∀ j, j < k → p j = false) → I k W → Calls Try.prog fid (fst.push (tlyv l[k]) ++ caps) W (fun e W' => e = .returned (.bool (p k)) ∧ I (k + 1) W')) (h0 : I 0 w) :
    Calls Try.prog 99 #[v, .func (.func fid) fst caps] w (IdxPost l.length p I (fun k => iv k) (iv (-1))) := by
  have hlen := (hsl 0 w h0).len
  obtain ⟨o, c, rfl⟩ := (hsl 0 w h0).open
  have HC := Lib.hid hcall
  have HS := Lib.hid hsl
  clear hcall hsl
  go_enter Try.func99, Try.ntmps99
  go_wp2
  go_loopw [4, 5, 8] (fun _ _ i wr => ∃ k : Nat, k ≤ l.length ∧ i = .int .i64 k ∧ (∀ j, j < k → p j = false) ∧ I k wr) (fun _ _ i _ => l.length - (intOf i).toNat)
  case atStart => exact ⟨0, Nat.zero_le _, rfl, fun j hj => by omega, h0⟩
  case round =>
    obtain ⟨k, hk, rfl, hno, hI⟩ := hrel
    by_cases hlt : k < l.length
    · obtain ⟨b, off, rfl, hb, hc0, hc1, hc2, hc3, hc4⟩ := TalliesAt.cell (HS.out k wr hI) hlt
      have hC := HC.out k hlt wr hno hI
      have HN := Lib.hid hno
      clear hno
      go_wp2_with fail
      refine hC.mono ?_
      rintro e W1 ⟨rfl, hI1⟩
      have HI := Lib.hid hI1
      clear hI1 hI hC
      cases hp : p k
      · go_wp2_with fail
        go_roundw
        case rel => exact ⟨k + 1, by omega, by go_num, fun j hj => (by by_cases e : j = k; (subst e; exact hp); exact HN.out j (by omega)), HI.out⟩
        case measure => simp [intOf]; omega
      · go_wp2_with fail
        go_returns
        exact ⟨k, by omega, HN.out, .inl ⟨hlt, hp, by simp, HI.out⟩⟩
    · have hkl : k = l.length := by omega
      have HN := Lib.hid hno
      clear hno
      go_wp2_with fail
      go_returns
      exact ⟨k, by omega, HN.out, .inr ⟨hkl, by simp, by subst hkl; exact hI⟩⟩

theorem contT (l : List Tly) (v : Value) (fid : Nat) (fst caps : Array Value) (p : Nat → Bool) (I : Nat → World → Prop) (w : World) (eg : ∀ args w, (callFunc fid args).run Try.prog w = .ok (.enter fid args) w)
    (hsl : ∀ k W, I k W → TalliesAt W v l)
    (hcall : ∀ k (hk : k < l.length) W, (∀ j, j < k → p j = false) → I k W → Calls Try.prog fid (fst.push (tlyv l[k]) ++ caps) W (fun e W' => e = .returned (.bool (p k)) ∧ I (k + 1) W')) (h0 : I 0 w) :
    Calls Try.prog 93 #[v, .func (.func fid) fst caps] w (IdxPost l.length p I (fun _ => .bool true) (.bool false)) := by
  have HI := Lib.hid (idxT l v fid fst caps p I w eg hsl hcall h0)
  have hlen := (hsl 0 w h0).len
  clear hsl hcall h0 eg
  go_enter Try.func93, Try.ntmps93
  go_wp2_with fail
  refine HI.out.mono ?_
  clear HI
  rintro e W' ⟨k, hk, hno, ⟨hlt, hp, rfl, hI⟩ | ⟨hkl, rfl, hI⟩⟩
  · have HN := Lib.hid (And.intro hno (And.intro hp hI))
    clear hno hp hI
    go_wp2_with fail
    go_returns
    exact ⟨k, hk, HN.out.1, .inl ⟨hlt, HN.out.2.1, by simp, HN.out.2.2⟩⟩
  · have HN := Lib.hid (And.intro hno (And.intro hkl hI))
    clear hno hkl hI
    go_wp2_with fail
    go_returns
    exact ⟨k, hk, HN.out.1, .inr ⟨HN.out.2.1, by simp, HN.out.2.1 ▸ HN.out.2.2⟩⟩

theorem all1T (x : Tly) (bx fid : Nat) (fst caps : Array Value) (b : Bool) (W : World) (R : World → Prop) (eg : ∀ args w, (callFunc fid args).run Try.prog w = .ok (.enter fid args) w)
    (hbx : W.cell? ⟨bx, 0, none⟩ = some (.func (.func fid) fst caps))
    (hcall : Calls Try.prog fid (fst.push (tlyv x) ++ caps) (W.alloc (.cells #[iv x.1, iv x.2.1, iv x.2.2.1, iv x.2.2.2.1, iv x.2.2.2.2] 55)) (fun e W' => e = .returned (.bool b) ∧ R W')) :
    Calls Try.prog 94 #[tlyv x, .pointer (some ⟨bx, 0, none⟩)] W (fun e W' => e = .returned (.bool !b) ∧ R W') := by
  have hlt := World.block_lt_of_cell? W _ hbx
  have HC := Lib.hid hcall
  clear hcall
  go_enter Try.func94, Try.ntmps94
  go_wp2_with fail
  refine HC.out.mono ?_
  rintro e W' ⟨rfl, hR⟩
  have HR := Lib.hid hR
  clear hR
  go_wp2_with fail
  go_returns
  exact ⟨by simp, HR.out⟩

theorem wall1I (x : Int) (bx fid : Nat) (fst caps : Array Value) (b : Bool) (W : World) (R : World → Prop) (eg : ∀ args w, (callFunc fid args).run Try.prog w = .ok (.enter fid args) w)
    (hbx : W.cell? ⟨bx, 0, none⟩ = some (.func (.func fid) fst caps))
    (hcall : Calls Try.prog fid (fst.push (iv x) ++ caps) W (fun e W' => e = .returned (.bool b) ∧ R W')) :
    Calls Try.prog 78 #[iv x, .pointer (some ⟨bx, 0, none⟩)] W (fun e W' => e = .returned (.bool !b) ∧ R W') := by
  have hlt := World.block_lt_of_cell? W _ hbx
  have HC := Lib.hid hcall
  clear hcall
  go_enter Try.func78, Try.ntmps78
  go_wp2_with fail
  refine HC.out.mono ?_
  rintro e W' ⟨rfl, hR⟩
  have HR := Lib.hid hR
  clear hR
  go_wp2_with fail
  go_returns
  exact ⟨by simp, HR.out⟩

theorem allT (l : List Tly) (v : Value) (fid : Nat) (fst caps : Array Value) (p : Nat → Bool) (I : Nat → World → Prop) (w : World) (eg : ∀ args w, (callFunc fid args).run Try.prog w = .ok (.enter fid args) w)
    (hsl : ∀ k W, I k W → TalliesAt W v l) (hal : ∀ k W o, I k W → I k (W.alloc o))
    (hcall : ∀ k (hk : k < l.length) W, (∀ j, j < k → p j = true) → I k W → Calls Try.prog fid (fst.push (tlyv l[k]) ++ caps) W (fun e W' => e = .returned (.bool (p k)) ∧ I (k + 1) W' ∧ FromOn w.heap.size W W')) (h0 : I 0 w) :
    Calls Try.prog 76 #[v, .func (.func fid) fst caps] w (IdxPost l.length (fun k => !p k) I (fun _ => .bool false) (.bool true)) := by
  have HI := Lib.hid (contT l v 94 #[] #[.pointer (some ⟨w.heap.size, 0, none⟩)] (fun k => !p k)
    (fun k W => I k W ∧ W.heap[w.heap.size]? = some (.cells #[.func (.func fid) fst caps] 123 (0, 0))) (w.alloc (.cells #[.func (.func fid) fst caps] 123))
    (enters_of Try.func94 (by kernel_rfl) rfl) (fun k W h => hsl k W h.1)
    (fun k hk W hno h => by
      have hlt : w.heap.size < W.heap.size := (Array.getElem?_eq_some_iff.1 h.2).1
      refine (all1T l[k] w.heap.size fid fst caps (p k) W (fun W' => I (k + 1) W' ∧ W'.heap[w.heap.size]? = some (.cells #[.func (.func fid) fst caps] 123 (0, 0))) eg (cell_of_block0 h.2) ?_)
      refine (hcall k hk _ (fun j hj => by simpa using hno j hj) (by first | exact hal _ _ _ h.1 | exact h.1)).mono ?_
      rintro e W' ⟨rfl, h1, h2⟩
      refine ⟨rfl, h1, (h2.block _ (Nat.le_refl _) (by first | exact hlt | (simp; omega))).trans (by first | exact h.2 | exact (Below.heap_alloc _ _ _ hlt).trans h.2)⟩)
    ⟨hal _ _ _ h0, heap_alloc_new w _⟩)
  have hlen := (hsl 0 w h0).len
  clear hsl hcall h0 eg hal
  go_enter Try.func76, Try.ntmps76
  go_wp2_with fail
  refine HI.out.mono ?_
  clear HI
  rintro e W' ⟨k, hk, hno, ⟨hlt, hp, rfl, hI, _⟩ | ⟨hkl, rfl, hI, _⟩⟩
  · have HN := Lib.hid (And.intro hno (And.intro hp hI))
    clear hno hp hI
    go_wp2_with fail
    go_returns
    exact ⟨k, hk, HN.out.1, .inl ⟨hlt, HN.out.2.1, by simp, HN.out.2.2⟩⟩
  · have HN := Lib.hid (And.intro hno (And.intro hkl hI))
    clear hno hkl hI
    go_wp2_with fail
    go_returns
    exact ⟨k, hk, HN.out.1, .inr ⟨HN.out.2.1, by simp, HN.out.2.1 ▸ HN.out.2.2⟩⟩

theorem wallI (l : List Int) (v : Value) (fid : Nat) (fst caps : Array Value) (p : Nat → Bool) (I : Nat → World → Prop) (w : World) (eg : ∀ args w, (callFunc fid args).run Try.prog w = .ok (.enter fid args) w)
    (hsl : ∀ k W, I k W → IntsAt W v l) (hal : ∀ k W o, I k W → I k (W.alloc o))
    (hcall : ∀ k (hk : k < l.length) W, (∀ j, j < k → p j = true) → I k W → Calls Try.prog fid (fst.push (iv l[k]) ++ caps) W (fun e W' => e = .returned (.bool (p k)) ∧ I (k + 1) W' ∧ FromOn w.heap.size W W')) (h0 : I 0 w) :
    Calls Try.prog 57 #[v, .func (.func fid) fst caps] w (IdxPost l.length (fun k => !p k) I (fun _ => .bool false) (.bool true)) := by
  have HI := Lib.hid (contI l v 78 #[] #[.pointer (some ⟨w.heap.size, 0, none⟩)] (fun k => !p k)
    (fun k W => I k W ∧ W.heap[w.heap.size]? = some (.cells #[.func (.func fid) fst caps] 67 (0, 0))) (w.alloc (.cells #[.func (.func fid) fst caps] 67))
    (enters_of Try.func78 (by kernel_rfl) rfl) (fun k W h => hsl k W h.1)
    (fun k hk W hno h => by
      have hlt : w.heap.size < W.heap.size := (Array.getElem?_eq_some_iff.1 h.2).1
      refine (wall1I l[k] w.heap.size fid fst caps (p k) W (fun W' => I (k + 1) W' ∧ W'.heap[w.heap.size]? = some (.cells #[.func (.func fid) fst caps] 67 (0, 0))) eg (cell_of_block0 h.2) ?_)
      refine (hcall k hk _ (fun j hj => by simpa using hno j hj) (by first | exact hal _ _ _ h.1 | exact h.1)).mono ?_
      rintro e W' ⟨rfl, h1, h2⟩
      refine ⟨rfl, h1, (h2.block _ (Nat.le_refl _) (by first | exact hlt | (simp; omega))).trans (by first | exact h.2 | exact (Below.heap_alloc _ _ _ hlt).trans h.2)⟩)
    ⟨hal _ _ _ h0, heap_alloc_new w _⟩)
  have hlen := (hsl 0 w h0).len
  clear hsl hcall h0 eg hal
  go_enter Try.func57, Try.ntmps57
  go_wp2_with fail
  refine HI.out.mono ?_
  clear HI
  rintro e W' ⟨k, hk, hno, ⟨hlt, hp, rfl, hI, _⟩ | ⟨hkl, rfl, hI, _⟩⟩
  · have HN := Lib.hid (And.intro hno (And.intro hp hI))
    clear hno hp hI
    go_wp2_with fail
    go_returns
    exact ⟨k, hk, HN.out.1, .inl ⟨hlt, HN.out.2.1, by simp, HN.out.2.2⟩⟩
  · have HN := Lib.hid (And.intro hno (And.intro hkl hI))
    clear hno hkl hI
    go_wp2_with fail
    go_returns
    exact ⟨k, hk, HN.out.1, .inr ⟨HN.out.2.1, by simp, HN.out.2.1 ▸ HN.out.2.2⟩⟩

theorem allT_pure (l : List Tly) (v : Value) (fid : Nat) (fst caps : Array Value) (q : Tly → Bool) (w : World) (hv : TalliesAt w v l) (eg : ∀ args w, (callFunc fid args).run Try.prog w = .ok (.enter fid args) w)
    (hcall : ∀ x ∈ l, ∀ W, Below w.heap.size w W → Calls Try.prog fid (fst.push (tlyv x) ++ caps) W (PV (.bool (q x)) W)) :
    Calls Try.prog 76 #[v, .func (.func fid) fst caps] w (PV (.bool (l.all q)) w) := by
  refine (allT l v fid fst caps (fun k => q (l.getD k (0, 0, 0, (0, 0)))) (fun _ W => Below w.heap.size w W) w eg (fun k W h => hv.below h (Nat.le_refl _)) (fun k W o h => bgoAlloc h o) (fun k hk W _ h => ?_) (Below.refl _ _)).mono ?_
  · refine (hcall l[k] (List.getElem_mem _) W h).mono ?_
    rintro e W' ⟨rfl, hb⟩
    exact ⟨by simp [hk], bgo h hb, FromOn.of_below hb⟩
  · intro e W' hpost
    obtain ⟨rfl, k, _, hI⟩ := hpost.all
    refine ⟨?_, hI⟩
    rw [all_of_any, range_all]

theorem wallI_pure (l : List Int) (v : Value) (fid : Nat) (fst caps : Array Value) (q : Int → Bool) (w : World) (hv : IntsAt w v l) (eg : ∀ args w, (callFunc fid args).run Try.prog w = .ok (.enter fid args) w)
    (hcall : ∀ x ∈ l, ∀ W, Below w.heap.size w W → Calls Try.prog fid (fst.push (iv x) ++ caps) W (PV (.bool (q x)) W)) :
    Calls Try.prog 57 #[v, .func (.func fid) fst caps] w (PV (.bool (l.all q)) w) := by
  refine (wallI l v fid fst caps (fun k => q (l.getD k 0)) (fun _ W => Below w.heap.size w W) w eg (fun k W h => hv.below h (Nat.le_refl _)) (fun k W o h => bgoAlloc h o) (fun k hk W _ h => ?_) (Below.refl _ _)).mono ?_
  · refine (hcall l[k] (List.getElem_mem _) W h).mono ?_
    rintro e W' ⟨rfl, hb⟩
    exact ⟨by simp [hk], bgo h hb, FromOn.of_below hb⟩
  · intro e W' hpost
    obtain ⟨rfl, k, _, hI⟩ := hpost.all
    refine ⟨?_, hI⟩
    rw [all_of_any, range_all]

end Go.Proofs.Ytechgmnkcijahaa

namespace Go.Proofs.Ytechgmnkcijahaa
open Go.RowKit Go.RG Go.SL Go.Shelf Cou Go.TB
set_option maxHeartbeats 400000
set_option maxRecDepth 10000

theorem powF_bd {b : Int} (h1 : 1 ≤ b) (h4 : b ≤ 4) : ∀ k : Nat, k ≤ 7 → 1 ≤ b ^ k ∧ b ^ k ≤ 4 ^ k := by
  intro k
  induction k with
  | zero => intro _; simp
  | succ k ih =>
    intro hk
    obtain ⟨i1, i2⟩ := ih (by omega)
    rw [Int.pow_succ, Int.pow_succ]
    constructor
    · have := Int.mul_le_mul i1 h1 (by omega) (by omega); omega
    · exact Int.mul_le_mul i2 h4 (by omega) (by omega)
theorem powF_bd' {b : Int} (h1 : 1 ≤ b) (h4 : b ≤ 4) (k : Nat) (hk : k ≤ 7) : 1 ≤ b ^ k ∧ b ^ k ≤ 16384 := by
  obtain ⟨a, c⟩ := powF_bd h1 h4 k hk
  refine ⟨a, Int.le_trans c ?_⟩
  have : ∀ k : Nat, k ≤ 7 → (4 : Int) ^ k ≤ 16384 := by decide
  exact this k hk


theorem checkF_lim1 (f : FieldD) (o : Option Addr) (n c : Nat) (w : World) (a1 : 7 < f.rows) : Calls Try.prog 56 #[fv f (.slice o n c)] w (PV (iv 3) w) := by
  go_enter Try.func56, Try.ntmps56
  go_wp2
  go_returns
  exact ⟨by simp, (by repeat (first | exact Below.refl _ _ | assumption | refine bgo ?_ (by assumption) | refine bgoAlloc ?_ _ | refine bgoDrew ?_ | refine bgoSet ?_ (by simp; omega) _))⟩
theorem checkF_lim2 (f : FieldD) (o : Option Addr) (n c : Nat) (w : World) (a1 : ¬ 7 < f.rows) (a2 : 3 < f.weeders) : Calls Try.prog 56 #[fv f (.slice o n c)] w (PV (iv 3) w) := by
  go_enter Try.func56, Try.ntmps56
  go_wp2
  go_returns
  exact ⟨by simp, (by repeat (first | exact Below.refl _ _ | assumption | refine bgo ?_ (by assumption) | refine bgoAlloc ?_ _ | refine bgoDrew ?_ | refine bgoSet ?_ (by simp; omega) _))⟩
theorem checkF_lim3 (f : FieldD) (o : Option Addr) (n c : Nat) (w : World) (a1 : ¬ 7 < f.rows) (a2 : ¬ 3 < f.weeders) (a3 : (5 : Int) < n) : Calls Try.prog 56 #[fv f (.slice o n c)] w (PV (iv 3) w) := by
  go_enter Try.func56, Try.ntmps56
  go_wp2
  go_returns
  exact ⟨by simp, (by repeat (first | exact Below.refl _ _ | assumption | refine bgo ?_ (by assumption) | refine bgoAlloc ?_ _ | refine bgoDrew ?_ | refine bgoSet ?_ (by simp; omega) _))⟩
theorem checkF_arg1 (f : FieldD) (o : Option Addr) (n c : Nat) (w : World) (a1 : ¬ 7 < f.rows) (a2 : ¬ 3 < f.weeders) (a3 : ¬ (5 : Int) < n) (b1 : f.rows < 1) : Calls Try.prog 56 #[fv f (.slice o n c)] w (PV (iv 1) w) := by
  go_enter Try.func56, Try.ntmps56
  go_wp2
  go_returns
  exact ⟨by simp, (by repeat (first | exact Below.refl _ _ | assumption | refine bgo ?_ (by assumption) | refine bgoAlloc ?_ _ | refine bgoDrew ?_ | refine bgoSet ?_ (by simp; omega) _))⟩
theorem checkF_arg2 (f : FieldD) (o : Option Addr) (n c : Nat) (w : World) (a1 : ¬ 7 < f.rows) (a2 : ¬ 3 < f.weeders) (a3 : ¬ (5 : Int) < n) (b1 : ¬ f.rows < 1) (b2 : f.weeders < 1) : Calls Try.prog 56 #[fv f (.slice o n c)] w (PV (iv 1) w) := by
  go_enter Try.func56, Try.ntmps56
  go_wp2
  go_returns
  exact ⟨by simp, (by repeat (first | exact Below.refl _ _ | assumption | refine bgo ?_ (by assumption) | refine bgoAlloc ?_ _ | refine bgoDrew ?_ | refine bgoSet ?_ (by simp; omega) _))⟩
theorem checkF_arg3 (f : FieldD) (o : Option Addr) (n c : Nat) (w : World) (a1 : ¬ 7 < f.rows) (a2 : ¬ 3 < f.weeders) (a3 : ¬ (5 : Int) < n) (b1 : ¬ f.rows < 1) (b2 : ¬ f.weeders < 1) (b3 : okR f.left f.rows = false) :
    Calls Try.prog 56 #[fv f (.slice o n c)] w (PV (iv 1) w) := by
  go_enter Try.func56, Try.ntmps56
  go_wp2_with fail
  refine (frows_any f _ (_, _) _).mono ?_
  rintro e w' ⟨rfl, hb⟩
  obtain ⟨hc, hf⟩ := bcell hb
  have hz0 : w.heap.size < w'.heap.size := (by have := hb.size; (try simp only [World.size_alloc] at this); omega)
  rw [show okR (f.left.1, f.left.2) f.rows = false from b3]
  go_wp2_with fail
  go_returns
  exact ⟨by simp, (by repeat (first | exact Below.refl _ _ | assumption | refine bgo ?_ (by assumption) | refine bgoAlloc ?_ _ | refine bgoDrew ?_ | refine bgoSet ?_ (by simp; omega) _))⟩

/-- The walk through the checks that stand. -/
theorem checkF_arg4 (f : FieldD) (o : Option Addr) (c : Nat) (w : World) (hx : TalliesAt w (.slice o f.tallies.length c) f.tallies) (a1 : ¬ 7 < f.rows) (a2 : ¬ 3 < f.weeders) (a3 : ¬ (5 : Int) < f.tallies.length) (b1 : ¬ f.rows < 1) (b2 : ¬ f.weeders < 1) (b3 : okR f.left f.rows = true)
    (b4 : f.tallies.all (okTally f) = false) :
    Calls Try.prog 56 #[fv f (.slice o f.tallies.length c)] w (PV (iv 1) w) := by
  have HX := Lib.hid hx
  have HB4 := Lib.hid b4
  clear hx b4
  go_enter Try.func56, Try.ntmps56
  go_wp2_with fail
  refine (frows_any f _ (_, _) _).mono ?_
  rintro e w' ⟨rfl, hb⟩
  obtain ⟨hc, hf⟩ := bcell hb
  have hz0 : w.heap.size < w'.heap.size := (by have := hb.size; (try simp only [World.size_alloc] at this); omega)
  have HB := Lib.hid (show Below w.heap.size w w' from (by repeat (first | exact Below.refl _ _ | assumption | refine bgo ?_ (by assumption) | refine bgoAlloc ?_ _ | refine bgoDrew ?_ | refine bgoSet ?_ (by simp; omega) _)))
  clear hb
  rw [show okR (f.left.1, f.left.2) f.rows = true from b3]
  go_wp2_with fail
  refine (allT_pure f.tallies (.slice o f.tallies.length c) 74 #[fv f (.slice o f.tallies.length c)] #[] (okTally f) w' (HX.out.below HB.out (Nat.le_refl _)) (enters_of Try.func74 (by kernel_rfl) rfl) (fun x _ W _ => tally_any f _ x W (by omega) (by omega) (by omega) (by omega))).mono ?_
  rw [HB4.out]
  rintro e w2 ⟨rfl, hb⟩
  obtain ⟨hc2, hf2⟩ := bcell hb
  have hz2 : w.heap.size < w2.heap.size := by have := hb.size; omega
  have HB2 := Lib.hid (bgo HB.out hb)
  clear hb
  go_wp2_with fail
  go_returns
  exact ⟨by simp, HB2.out⟩

theorem checkF_good (f : FieldD) (o : Option Addr) (c : Nat) (w : World) (hx : TalliesAt w (.slice o f.tallies.length c) f.tallies) (a1 : ¬ 7 < f.rows) (a2 : ¬ 3 < f.weeders) (a3 : ¬ (5 : Int) < f.tallies.length) (b1 : ¬ f.rows < 1) (b2 : ¬ f.weeders < 1) (b3 : okR f.left f.rows = true)
    (b4 : f.tallies.all (okTally f) = true) (r : Int) (hr : r = if 2500 < (f.weeders + 1) ^ f.rows.toNat then 3 else 0) :
    Calls Try.prog 56 #[fv f (.slice o f.tallies.length c)] w (PV (iv r) w) := by
  have HX := Lib.hid hx
  have HB4 := Lib.hid b4
  have hbase : 1 ≤ f.weeders + 1 ∧ f.weeders + 1 ≤ 4 := by omega
  have HP := Lib.hid (fun (k : Nat) (hk : k ≤ 7) => powF_bd' hbase.1 hbase.2 k hk)
  obtain ⟨n, hn⟩ : ∃ n : Nat, f.rows = n := ⟨f.rows.toNat, by omega⟩
  have hn7 : n ≤ 7 := by omega
  have HR : Hid (r = if 2500 < (f.weeders + 1) ^ n then 3 else 0) := Lib.hid (by rw [hr, hn]; rfl)
  have HN := Lib.hid hn
  clear hx b4 hbase hr hn
  go_enter Try.func56, Try.ntmps56
  go_wp2_with fail
  refine (frows_any f _ (_, _) _).mono ?_
  rintro e w' ⟨rfl, hb⟩
  obtain ⟨hc, hf⟩ := bcell hb
  have hz0 : w.heap.size < w'.heap.size := (by have := hb.size; (try simp only [World.size_alloc] at this); omega)
  have HB := Lib.hid (show Below w.heap.size w w' from (by repeat (first | exact Below.refl _ _ | assumption | refine bgo ?_ (by assumption) | refine bgoAlloc ?_ _ | refine bgoDrew ?_ | refine bgoSet ?_ (by simp; omega) _)))
  clear hb
  rw [show okR (f.left.1, f.left.2) f.rows = true from b3]
  go_wp2_with fail
  refine (allT_pure f.tallies (.slice o f.tallies.length c) 74 #[fv f (.slice o f.tallies.length c)] #[] (okTally f) w' (HX.out.below HB.out (Nat.le_refl _)) (enters_of Try.func74 (by kernel_rfl) rfl) (fun x _ W _ => tally_any f _ x W (by omega) (by omega) (by omega) (by omega))).mono ?_
  rw [HB4.out]
  rintro e w2 ⟨rfl, hb⟩
  obtain ⟨hc2, hf2⟩ := bcell hb
  have hz2 : w.heap.size < w2.heap.size := by have := hb.size; omega
  have HB2 := Lib.hid (bgo HB.out hb)
  clear hb
  go_wp2_with fail
  go_loop [4, 47] (fun m i => ∃ k : Nat, k ≤ n ∧ i = .int .i64 k ∧ m = .int .i64 ((f.weeders + 1) ^ k)) (fun _ i => n - (intOf i).toNat)
  case atStart => exact ⟨0, Nat.zero_le _, rfl, by simp⟩
  case round =>
    obtain ⟨k, hk, rfl, rfl⟩ := hrel
    obtain ⟨p1, p2⟩ := HP.out k (by omega)
    by_cases hlt : k < n
    · have hkI : (k : Int) < f.rows := by have := HN.out; omega
      obtain ⟨q1, q2⟩ := HP.out (k + 1) (by omega)
      have HE := Lib.hid (Int.pow_succ (f.weeders + 1) k)
      rw [Int.pow_succ] at q1 q2
      generalize (f.weeders + 1) ^ k = m at p1 p2 q1 q2 HE ⊢
      go_wp2
      go_round
      case rel => exact ⟨k + 1, by omega, by go_num, by rw [HE.out]⟩
      case measure => simp [intOf]; omega
    · have hkn : k = n := by omega
      subst hkn
      have hkI : ¬ (k : Int) < f.rows := by have := HN.out; omega
      generalize (f.weeders + 1) ^ k = m at p1 p2 HR ⊢
      by_cases hm : 2500 < m
      · go_wp2
        go_returns
        exact ⟨by rw [HR.out, if_pos hm]; simp, HB2.out⟩
      · go_wp2
        go_returns
        exact ⟨by rw [HR.out, if_neg (by omega)]; simp, HB2.out⟩

theorem checkF_any (f : FieldD) (tv : Value) (w : World) (hx : TalliesAt w tv f.tallies) :
    Calls Try.prog 56 #[fv f tv] w (PV (iv (faultF f)) w) := by
  obtain ⟨o, c, rfl⟩ := hx.open
  by_cases ha : 7 < f.rows ∨ 3 < f.weeders ∨ 5 < f.tallies.length
  · rw [show faultF f = 3 from by unfold faultF; rw [if_pos ha]]
    by_cases a1 : 7 < f.rows
    · exact checkF_lim1 f o _ c w a1
    by_cases a2 : 3 < f.weeders
    · exact checkF_lim2 f o _ c w a1 a2
    exact checkF_lim3 f o _ c w a1 a2 (by omega)
  obtain ⟨a1, a2, a3⟩ : ¬ 7 < f.rows ∧ ¬ 3 < f.weeders ∧ ¬ (5 : Int) < f.tallies.length := by omega
  rw [show faultF f = if f.rows < 1 ∨ f.weeders < 1 ∨ okR f.left f.rows = false ∨ f.tallies.all (okTally f) = false then 1 else if 2500 < (f.weeders + 1) ^ f.rows.toNat then 3 else 0 from by
    unfold faultF; rw [if_neg ha]]
  by_cases b1 : f.rows < 1
  · rw [if_pos (.inl b1)]
    exact checkF_arg1 f o _ c w a1 a2 a3 b1
  by_cases b2 : f.weeders < 1
  · rw [if_pos (.inr (.inl b2))]
    exact checkF_arg2 f o _ c w a1 a2 a3 b1 b2
  by_cases b3 : okR f.left f.rows = false
  · rw [if_pos (.inr (.inr (.inl b3)))]
    exact checkF_arg3 f o _ c w a1 a2 a3 b1 b2 b3
  by_cases b4 : f.tallies.all (okTally f) = false
  · rw [if_pos (.inr (.inr (.inr b4)))]
    exact checkF_arg4 f o c w hx a1 a2 a3 b1 b2 (by simpa using b3) b4
  exact checkF_good f o c w hx a1 a2 a3 b1 b2 (by simpa using b3) (by simpa using b4) _ (by rw [if_neg (by simp only [not_or]; exact ⟨b1, b2, b3, b4⟩)])

end Go.Proofs.Ytechgmnkcijahaa

namespace Go.Proofs.Ytechgmnkcijahaa
open Go.RowKit Go.RG Go.SL Go.Shelf Cou Go.TB
set_option maxHeartbeats 400000
set_option maxRecDepth 10000

theorem didL_succ (l : List Int) (who : Int) (a k : Nat) : didL l who a (k + 1) = didL l who a k + (if l.getD (a + k) 0 = who then 1 else 0) := by
  unfold didL
  rw [List.range'_concat, List.countP_append, List.countP_singleton]
  by_cases h : l.getD (a + k) 0 = who
  · simp only [Nat.one_mul, h, beq_self_eq_true, if_true]; omega
  · simp only [Nat.one_mul, if_neg h, show (l.getD (a + k) 0 == who) = false from by simpa using h, Bool.false_eq_true, if_false]; omega
theorem didL_bd (l : List Int) (who : Int) (a k : Nat) : 0 ≤ didL l who a k ∧ didL l who a k ≤ k := by
  unfold didL
  have := List.countP_le_length (l := List.range' a k) (p := fun i => l.getD i 0 == who)
  simp only [List.length_range'] at this
  omega

theorem slice_answers (g a n : Nat) (b : Int) (hb : b + 1 = (a : Int) + n) (hn : 1 ≤ n) (h7 : a + n ≤ 7) (W : World) :
    (Instr.sliceAt 105 (.pointer (some ⟨g, 0, none⟩)) (some (iv (a : Int))) (some (iv (b + 1))) none).run Try.prog W = .ok (.slice (some ⟨g, a, none⟩) n (7 - a)) W := by
  have hl : Try.prog.arrayLen 105 = 7 := by kernel_rfl
  have h := run_sliceAt_array_lh (P := Try.prog) W 105 ⟨g, 0, none⟩ (by kernel_rfl) .i64 .i64 (a : Int) (b + 1) (by omega) (by omega) (by rw [hl]; omega)
  have hs : (sizeOf (Try.prog.elem 105)).run Try.prog W = .ok 1 W := by kernel_rfl
  rw [h, hs, hl]
  have e1 : (b + 1).toNat = a + n := by omega
  have e2 : ¬ 7 = a := by omega
  simp [slicedAt, e1, e2, Addr.add]
  omega

theorem count_any (xs : List Int) (hx : xs.length = 7) (who : Int) (a n : Nat) (b : Int) (hb : b + 1 = (a : Int) + n) (hn : 1 ≤ n) (h7 : a + n ≤ 7) (w : World) :
    Calls Try.prog 80 #[aggI xs, iv who, iv a, iv b] w (PV (iv (didL xs who a n)) w) := by
  have hN := heap_new0 w (.cells (intCells xs).toArray 105)
  have HX := Lib.hid hx
  have hsl := slice_answers w.heap.size a n b hb hn h7
  rw [hb] at hsl
  have hb0 : -1 ≤ b := by omega
  have hb6 : b ≤ 6 := by omega
  clear hx
  go_enter Try.func80, Try.ntmps80
  go_wp2
  have HN := Lib.hid hN
  clear hN hsl
  go_loop [8, 16] (fun m i => ∃ k : Nat, k ≤ n ∧ i = .int .i64 k ∧ m = .int .i64 (didL xs who a k)) (fun _ i => n - (intOf i).toNat)
  case atStart => exact ⟨0, Nat.zero_le _, rfl, by simp [didL]⟩
  case round =>
    obtain ⟨k, hk, rfl, rfl⟩ := hrel
    have hbd := didL_bd xs who a k
    have hsu := didL_succ xs who a k
    by_cases hlt : k < n
    · have hcell := cell_of_ints HN.out (show a + k < xs.length by rw [HX.out]; omega)
      have hg : xs.getD (a + k) 0 = xs[a + k]'(by rw [HX.out]; omega) := by simp [List.getD, HX.out, show a + k < 7 by omega]
      rw [hg] at hsu
      have HSU := Lib.hid hsu
      clear hg hsu
      generalize xs[a + k]'(by rw [HX.out]; omega) = y at *
      generalize didL xs who a k = d at *
      by_cases hy : y = who
      · subst hy
        go_wp2
        go_round
        case rel => exact ⟨k + 1, by omega, by go_num, by rw [HSU.out, if_pos rfl]⟩
        case measure => simp [intOf]; omega
      · have hyb : (y == who) = false := by simpa using hy
        have HY := Lib.hid hy
        clear hy
        go_wp2
        go_round
        case rel => exact ⟨k + 1, by omega, by go_num, by rw [HSU.out, if_neg HY.out]; simp⟩
        case measure => simp [intOf]; omega
    · have hkn : k = n := by omega
      subst hkn
      clear hsu
      generalize didL xs who a k = d at *
      go_wp2
      go_returns
      exact ⟨by simp, (by repeat (first | exact Below.refl _ _ | assumption | refine bgo ?_ (by assumption) | refine bgoAlloc ?_ _ | refine bgoDrew ?_ | refine bgoSet ?_ (by simp; omega) _))⟩

theorem seven_of {l : List Int} (h : l.length = 7) : ∃ a b c d e f g, l = [a, b, c, d, e, f, g] := by
  match l, h with
  | [a, b, c, d, e, f, g], _ => exact ⟨a, b, c, d, e, f, g, rfl⟩

/-- done, of a list that says something of each row. -/
theorem done_any (f : FieldD) (tv : Value) (xs : List Int) (hx : xs.length = 7) (who : Int) (w : World) (h0 : 1 ≤ f.rows) (h7 : f.rows ≤ 7) :
    Calls Try.prog 68 #[fv f tv, aggI xs, iv who] w (PV (iv (doneF f xs who)) w) := by
  have hcount := count_any xs hx who 0 f.rows.toNat (f.rows - 1) (by omega) (by omega) (by omega)
  have hd : didL xs who 0 f.rows.toNat = doneF f xs who := by
    unfold doneF didT
    simp
  rw [hd] at hcount
  generalize doneF f xs who = d at *
  obtain ⟨a, b, c, d, e, g, k, rfl⟩ := seven_of hx
  have HC := Lib.hid hcount
  clear hcount hx hd
  show Calls _ _ #[fv f tv, .agg #[iv a, iv b, iv c, iv d, iv e, iv g, iv k], iv who] _ _
  go_enter Try.func68, Try.ntmps68
  go_wp2_with fail
  refine (HC.out _).mono ?_
  rintro e w' ⟨rfl, hb⟩
  go_wp2_with fail
  go_returns
  exact ⟨by simp, (by repeat (first | exact Below.refl _ _ | assumption | refine bgo ?_ (by assumption) | refine bgoAlloc ?_ _ | refine bgoDrew ?_ | refine bgoSet ?_ (by simp; omega) _))⟩

end Go.Proofs.Ytechgmnkcijahaa

namespace Go.SL
open Go.RowKit Go.RG
theorem exec_load_mid {P : Program} {o : Oper} {ρ : Operand → Value} {W : World} (t : TypeId) (x : Operand) (ho : o.op = .load t x) (b off : Nat) (hx : ρ x = .pointer (some ⟨b, off, none⟩)) (cs : List Value) (d : TypeDesc)
    (hc : W.rangeAt b off cs) (hu : P.underlying t = some d) (hd : d.isRow = true) (hi : (P.info? t).map (·.size) = some cs.length) : (execOp ρ o).run P W = .ok (.value (.agg cs.toArray)) W := by
  unfold execOp
  simp only [ho, hx, Instr.loadAt, Instr.sureAddr, Sem.run_bind, Sem.run_pure, Result.andThen_ok, run_loadVar_mid W b off t cs d hc hu hd hi]

theorem all_range_ints : ∀ (xs ys : List Int), xs.length = ys.length → ((List.range xs.length).all fun i => xs.getD i 0 == ys.getD i 0) = (xs == ys)
  | [], [], _ => rfl
  | x :: xs, y :: ys, h => by
    have ih := all_range_ints xs ys (by simpa using h)
    rw [List.length_cons, List.range_succ_eq_map, List.all_cons, List.all_map]
    simp only [List.getD_cons_zero, Function.comp_def, List.getD_cons_succ, ih]
    simp [List.cons_beq_cons]
  | [], _ :: _, h => by simp at h
  | _ :: _, [], h => by simp at h

theorem run_equalIn_ints {P : Program} (w : World) (d : Nat) (t e : TypeId) (n : Nat) (ht : P.underlying t = some (.array n e)) (he : P.underlying e = some (.int .i64)) (hsz : ∀ w, (sizeOf e).run P w = .ok 1 w)
    (xs ys : List Int) (hx : xs.length = n) (hy : ys.length = n) :
    (Op.equalIn (d + 2) t (.agg (intCells xs).toArray) (.agg (intCells ys).toArray)).run P w = .ok (xs == ys) w := by
  rw [← all_range_ints xs ys (hx.trans hy.symm), hx, List.range_eq_range', Op.equalIn]
  simp only [Sem.run_bind, run_underlying ht, Result.andThen_ok, hsz, Std.Legacy.Range.forIn_eq_forIn_range', Std.Legacy.Range.size, Nat.sub_zero, Nat.add_sub_cancel, Nat.div_one]
  have hl : ∀ i ∈ List.range' 0 n 1, i < n := fun i hi => by simpa using (List.mem_range'_1.1 hi).2
  generalize List.range' 0 n 1 = l at hl ⊢
  induction l with
  | nil => simp
  | cons i l ih =>
    have hi : i < n := hl i (by simp)
    have px : (part e (intCells xs).toArray (i * 1)).run P w = .ok (.int .i64 (xs.getD i 0)) w := by
      simp [part, isAgg, run_underlying he, intCells, List.getD, List.getElem?_eq_getElem (show i < xs.length by omega)]
    have py : (part e (intCells ys).toArray (i * 1)).run P w = .ok (.int .i64 (ys.getD i 0)) w := by
      simp [part, isAgg, run_underlying he, intCells, List.getD, List.getElem?_eq_getElem (show i < ys.length by omega)]
    have pe : (Op.equalIn (d + 1) e (.int .i64 (xs.getD i 0)) (.int .i64 (ys.getD i 0))).run P w = .ok (xs.getD i 0 == ys.getD i 0) w := run_equalIn_int w d e .i64 .i64 _ _ he
    simp only [List.forIn_cons, Sem.run_bind, px, py, pe, Result.andThen_ok, List.all_cons]
    cases hb : (xs.getD i 0 == ys.getD i 0)
    · simp
    · simp only [Bool.not_true, Bool.false_eq_true, if_false, Sem.run_pure, Result.andThen_ok, Bool.true_and]
      exact ih fun j hj => hl j (by simp [hj])

theorem run_neq_ints {P : Program} (w : World) (t e : TypeId) (n : Nat) (ht : P.underlying t = some (.array n e)) (he : P.underlying e = some (.int .i64)) (hsz : ∀ w, (sizeOf e).run P w = .ok 1 w)
    (xs ys : List Int) (hx : xs.length = n) (hy : ys.length = n) :
    (binOp .neq t (.agg (intCells xs).toArray) (.agg (intCells ys).toArray)).run P w = .ok (.bool (!(xs == ys))) w := by
  rw [run_neq_struct, run_equalIn_ints w 9998 t e n ht he hsz xs ys hx hy]
  rfl

theorem exec_neq_ints {P : Program} {o : Oper} {ρ : Operand → Value} {W : World} (t e tb : TypeId) (n : Nat) (x y : Operand) (ho : o.op = .binOp .neq t x y tb) (ht : P.underlying t = some (.array n e)) (he : P.underlying e = some (.int .i64)) (hsz : ∀ w, (sizeOf e).run P w = .ok 1 w)
    (hm : P.eqGuardType P.depth t = false) (xs ys : List Int) (hx : ρ x = .agg (intCells xs).toArray) (hy : ρ y = .agg (intCells ys).toArray) (hxl : xs.length = n) (hyl : ys.length = n) :
    (execOp ρ o).run P W = .ok (.value (.bool (!(xs == ys)))) W := by
  unfold execOp
  simp only [ho, hx, hy, Sem.run_bind, run_eqGuard_agg W .neq t x y _ _ hm, Result.andThen_ok, run_neq_ints W t e n ht he hsz xs ys hxl hyl, Sem.run_pure]

theorem owns_slice {w : World} {base : Nat} {e : TypeId} {size : Nat} {v : Value} {n : Nat} {xs : List Value} (h : w.ownsRow base e size v n xs) : ∃ o c, v = .slice o n c := by
  obtain ⟨h1, ⟨rfl, rfl⟩ | ⟨g, c, cs, rfl, hb, hc, h3⟩⟩ := h
  · exact ⟨none, 0, rfl⟩
  · exact ⟨_, _, rfl⟩

/-- The last element of a slice of arrays. -/
theorem owns_last {w : World} {base : Nat} {e : TypeId} {k : Nat} {v : Value} {A : List (List Int)} {z : List Int} (h : w.ownsRow base e k v (A.length + 1) ((A ++ [z]).flatMap intCells)) (hA : ∀ x ∈ A, x.length = k) (hz : z.length = k) :
    ∃ g c, v = .slice (some ⟨g, 0, none⟩) (A.length + 1) c ∧ base ≤ g ∧ g < w.heap.size ∧ w.rangeAt g (A.length * k) (intCells z) := by
  obtain ⟨h1, ⟨hv, h2⟩ | ⟨g, c, cs, hv, hb, hc, hn, hm, hs, hx⟩⟩ := h
  · exact absurd h2 (by simp)
  · refine ⟨g, c, hv, hb, (Array.getElem?_eq_some_iff.1 hc).1, fun j u hj => ?_⟩
    have hj' : j < k := by have := (List.getElem?_eq_some_iff.1 hj).1; simpa [intCells, hz] using this
    have e1 : ((A ++ [z]).flatMap intCells)[A.length * k + j]? = some u := by
      rw [List.flatMap_append, List.getElem?_append_right (by rw [len_flat A k hA]; omega), len_flat A k hA, Nat.add_sub_cancel_left]
      simpa using hj
    rw [← hx, List.getElem?_take] at e1
    split at e1
    · simp only [World.cell?, hc]; simpa using e1
    · cases e1

end Go.SL

namespace Go.Proofs.Ytechgmnkcijahaa
open Go.RowKit Go.RG Go.SL Go.Shelf Cou Go.TB
set_option maxHeartbeats 400000
set_option maxRecDepth 10000

theorem check_int9 (b : Bool) (n : Int) (w : World) : (Instr.checkKey b 9999 3 (iv n)).run Try.prog w = .ok () w := check_int b 9998 n w
/-! ### A stretch -/
abbrev Str := Int × Int × Int
abbrev strv (k : Str) : Value := .agg #[iv k.1, iv k.2.1, iv k.2.2]

theorem keyStr : KeyT Try.prog 128 strv (fun _ => True) where
  find w x es := run_findKey_eq w (by kernel_rfl) x es
  check b a w _ := by
    unfold Instr.checkKey
    simp [go_sem]
    simp only [check_int9, Result.andThen_ok]
  eq a b w _ _ := by
    unfold Op.equal Op.maxDepth
    simp [go_sem]
    obtain ⟨a1, a2, a3⟩ := a
    obtain ⟨b1, b2, b3⟩ := b
    by_cases h1 : a1 = b1 <;> by_cases h2 : a2 = b2 <;> by_cases h3 : a3 = b3 <;> simp [h1, h2, h3]
  bits a _ := by simp [Instr.sameBits]

/-! ### An array of seven numbers -/
def Len7 (l : List Int) : Prop := l.length = 7
theorem keyAns : KeyT Try.prog 105 aggI Len7 where
  find w x es := run_findKey_eq w (by kernel_rfl) x es
  check b a w h := by
    obtain ⟨a0, a1, a2, a3, a4, a5, a6, rfl⟩ := seven_of h
    show (Instr.checkKey b 10000 105 (.agg #[iv a0, iv a1, iv a2, iv a3, iv a4, iv a5, iv a6])).run _ _ = _
    unfold Instr.checkKey
    simp [go_sem]
    rw [show List.range' 0 7 = [0, 1, 2, 3, 4, 5, 6] from rfl]
    simp [go_sem, check_int9]
  eq a b w ha hb := by
    have h := run_equalIn_ints (P := Try.prog) w 9998 105 3 7 (by kernel_rfl) (by kernel_rfl) (fun w => by kernel_rfl) a b ha hb
    have : (Op.equal 105 (aggI a) (aggI b)).run Try.prog w = .ok (a == b) w := h
    rw [this]
    congr 1
    by_cases e : a = b
    · subst e; simp
    · simp [e]
  bits a h := by
    obtain ⟨a0, a1, a2, a3, a4, a5, a6, rfl⟩ := seven_of h
    show Instr.sameBits 10000 (.agg #[iv a0, iv a1, iv a2, iv a3, iv a4, iv a5, iv a6]) (.agg #[iv a0, iv a1, iv a2, iv a3, iv a4, iv a5, iv a6]) = true
    simp [Instr.sameBits]

end Go.Proofs.Ytechgmnkcijahaa

namespace Go.Proofs.Ytechgmnkcijahaa
open Go.RowKit Go.RG Go.SL Go.Shelf Cou Go.TB
set_option maxHeartbeats 400000
set_option maxRecDepth 10000

abbrev fcells (f : FieldD) (tv : Value) : Array Value := #[iv f.rows, iv f.weeders, iv f.left.1, iv f.left.2, tv]

/-- What right works with: the field, the answers, the table of what is known. -/
structure RtSt (w : World) (f : FieldD) (tv : Value) (xs : List Int) (W : World) : Prop where
  b0 : W.heap[w.heap.size]? = some (.cells (fcells f tv) 30 (0, 0))
  b1 : W.heap[w.heap.size + 1]? = some (.cells (intCells xs).toArray 105 (0, 0))
  tab : ∃ T : List (Str × Int), TabAt strv iv (fun _ => True) W (w.heap.size + 2) T ∧ ∀ k n, TB.look k T = some n → n = didT xs k.1 k.2.1 k.2.2
  below : Below w.heap.size w W

theorem RtSt.next {w : World} {f : FieldD} {tv : Value} {xs : List Int} {W W' : World} (h : RtSt w f tv xs W) (hb : Below W.heap.size W W') : RtSt w f tv xs W' := by
  obtain ⟨T, h1, h2⟩ := h.tab
  exact ⟨(hb.block _ (Array.getElem?_eq_some_iff.1 h.b0).1).trans h.b0, (hb.block _ (Array.getElem?_eq_some_iff.1 h.b1).1).trans h.b1, ⟨T, h1.below hb (Nat.le_refl _), h2⟩,
    h.below.trans (hb.mono h.below.size)⟩

/-- The tallies so far. -/
def okTo (f : FieldD) (out xs : List Int) (k : Nat) : Bool := (List.range k).all fun i => out.contains (i : Int) || tallyR xs (f.tallies.getD i (0, 0, 0, (0, 0)))

theorem countT_any (xs : List Int) (hx : xs.length = 7) (who a b : Int) (h0 : 0 ≤ a) (h1 : a ≤ b) (h2 : b < 7) (w : World) :
    Calls Try.prog 80 #[aggI xs, iv who, iv a, iv b] w (PV (iv (didT xs who a b)) w) := by
  have := count_any xs hx who a.toNat (b + 1 - a).toNat b (by omega) (by omega) (by omega) w
  rw [show ((a.toNat : Nat) : Int) = a from by omega] at this
  exact this

theorem right_any (f : FieldD) (hS : SoundF f) (o : Option Addr) (c : Nat) (xs : List Int) (hx : xs.length = 7) (ov : Value) (out : List Int) (w : World) (ht : TalliesAt w (.slice o f.tallies.length c) f.tallies) (ho : IntsAt w ov out) :
    Calls Try.prog 60 #[fv f (.slice o f.tallies.length c), aggI xs, ov] w (PV (.bool (rightF f out xs)) w) := by
  obtain ⟨oo, oc, rfl⟩ := ho.open
  have hmm := @run_makeMap Try.prog
  obtain ⟨x0, x1, x2, x3, x4, x5, x6, hxs⟩ := seven_of hx
  have hag : aggI xs = .agg #[iv x0, iv x1, iv x2, iv x3, iv x4, iv x5, iv x6] := by rw [hxs]; rfl
  have hce : (intCells xs).toArray = #[iv x0, iv x1, iv x2, iv x3, iv x4, iv x5, iv x6] := by rw [hxs]; rfl
  have HCN := Lib.hid (fun who a b h0 h1 h2 w => hag ▸ countT_any xs hx who a b h0 h1 h2 w)
  rw [hag]
  have hlen : f.tallies.length ≤ 5 := hS.tals
  have HS := Lib.hid hS
  have HT := Lib.hid ht
  have HO := Lib.hid ho
  have HX := Lib.hid (And.intro hx hce)
  clear hS ht ho hx hxs hag hce
  go_enter Try.func60, Try.ntmps60
  go_upto_region 2 with (fail)
  refine gworld fun W1 hW1 => ?_
  have hst : RtSt w f (.slice o f.tallies.length c) xs W1 := by
    rw [hW1]
    refine ⟨(Below.heap_alloc _ _ _ (by simp; omega)).trans ((Below.heap_alloc _ _ _ (by simp)).trans (heap_new0 _ _)), ?_, ⟨[], new_tab (heap_new2 _ _ _ _), fun k n h => by cases h⟩, (by repeat (first | exact Below.refl _ _ | assumption | refine bgo ?_ (by assumption) | refine bgoAlloc ?_ _ | refine bgoDrew ?_ | refine bgoSet ?_ (by simp; omega) _))⟩
    rw [HX.out.2]
    exact (Below.heap_alloc _ _ _ (by simp)).trans (heap_new1 _ _ _)
  clear hW1 hmm
  have c0 := cells_of_block hst.b0
  obtain ⟨cc0, cf0, cl0⟩ := c0
  have HST := Lib.hid hst
  clear hst
  go_wp2_with fail
  go_loopw [17] (fun i wr => ∃ k : Nat, k ≤ f.tallies.length ∧ i = .int .i64 k ∧ okTo f out xs k = true ∧ RtSt w f (.slice o f.tallies.length c) xs wr) (fun i _ => f.tallies.length - (intOf i).toNat)
  case atStart => exact ⟨0, Nat.zero_le _, rfl, rfl, HST.out⟩
  case round =>
    obtain ⟨k, hk, rfl, hok, hst⟩ := hrel
    obtain ⟨cc1, cf1, cl1⟩ := cells_of_block hst.b0
    have hb1 := hst.b1
    rw [HX.out.2] at hb1
    obtain ⟨cc2, cf2, cl2⟩ := cells_of_block hb1
    have HSt := Lib.hid hst
    have HOK := Lib.hid hok
    clear hok hb1 cc0 cf0 cl0
    by_cases hlt : k < f.tallies.length
    · have htl := HT.out.below hst.below (Nat.le_refl _)
      obtain ⟨b, off, hv, hb, d0, d1, d2, d3, d4⟩ := TalliesAt.cell htl hlt
      clear hst htl
      have htal := HS.out.tal _ (List.getElem_mem hlt)
      generalize htk : f.tallies[k] = t at *
      obtain ⟨tw, ta, tb, tlo, thi⟩ := t
      obtain ⟨⟨q1, q2⟩, ⟨q3, q4, q5⟩, ⟨q6, q7, q8⟩⟩ := htal
      cases hv
      simp only at d0 d1 d2 d3 d4 q1 q2 q3 q4 q5 q6 q7 q8
      have HTK := Lib.hid htk
      have hr7 := HS.out.rows1
      obtain ⟨D, hD⟩ : ∃ D, didT xs tw ta tb = D := ⟨_, rfl⟩
      have HC1 := Lib.hid (HCN.out tw ta tb q3 q4 (by omega))
      rw [hD] at HC1
      have hDb : 0 ≤ D ∧ D ≤ 7 := by
        rw [← hD]
        have := didL_bd xs tw ta.toNat (tb + 1 - ta).toNat
        unfold didT
        omega
      have HD := Lib.hid hD
      clear htk hD
      go_upto_region 6 with (fail)
      refine gworld fun W6 hW6 => ?_
      have hst6 : RtSt w f (.slice (some ⟨b, off, none⟩) f.tallies.length c) xs W6 := HSt.out.next (by rw [hW6]; exact (by repeat (first | exact Below.refl _ _ | assumption | refine bgo ?_ (by assumption) | refine bgoAlloc ?_ _ | refine bgoDrew ?_ | refine bgoSet ?_ (by simp; omega) _)))
      have hk9 : W6.heap[wr.heap.size]? = some (.cells #[iv tw, iv ta, iv tb, iv tlo, iv thi] 55 (0, 0)) := by rw [hW6]; exact (Below.heap_alloc _ _ _ (by simp)).trans (heap_new0 _ _)
      have hk10 : W6.heap[wr.heap.size + 1]? = some (.cells #[iv tw, iv ta, iv tb] 128 (0, 0)) := by rw [hW6]; exact heap_new1 _ _ _
      obtain ⟨T, hT, hTv⟩ := hst6.tab
      have hlook := fun cm => look_run keyStr (mt := 126) (e := 3) (by kernel_rfl) (z := iv 0) (fun W => by simp [go_sem]) hT (tw, ta, tb) trivial cm W6 rfl
      have HSZ6 := Lib.hid (show W6.heap.size = wr.heap.size + 2 by rw [hW6]; simp)
      clear hW6 cc1 cf1 cl1 cc2 cf2 cl2 d0 d1 d2 d3 d4 hb
      cases hl : TB.look (tw, ta, tb) T with
      | some n =>
        have hnD : n = D := by rw [← HD.out]; exact hTv _ _ hl
        rw [hnD] at hl
        clear hnD
        rw [hl] at hlook
        simp only [Option.map_some, Option.getD_some, Option.isSome_some] at hlook
        have hlk := hlook true
        simp only [if_true] at hlk
        have HLK := Lib.hid (fun W hW => look_run keyStr (mt := 126) (e := 3) (by kernel_rfl) (z := iv 0) (fun W => by simp [go_sem]) hT (tw, ta, tb) trivial false W hW)
        rw [hl] at HLK
        simp only [Option.map_some, Option.getD_some, Option.isSome_some, Bool.false_eq_true, if_false] at HLK
        have HSE := Lib.hid hst6
        obtain ⟨cc9, cf9, cl9⟩ := cells_of_block hk9
        obtain ⟨cc10, cf10, cl10⟩ := cells_of_block hk10
        clear hlook hl hTv hT hst6
        go_upto_region 9 with (fail)
        have hokn : okTo f out xs (k + 1) = (out.contains (k : Int) || inB D tlo thi) := by
          unfold okTo at *
          have h1 := HOK.out
          rw [range_all_succ, h1, Bool.true_and, show f.tallies.getD k (0, 0, 0, (0, 0)) = (tw, ta, tb, (tlo, thi)) from by simp [List.getD, hlt, HTK.out]]
          unfold tallyR
          simp only
          rw [HD.out]
        have HOKN := Lib.hid hokn
        clear hokn
        by_cases hoc : out.contains (k : Int) = true
        · have HOC := Lib.hid hoc
          clear hoc
          refine wp_region_rg 13 [] none [(2, Spec.val (.bool true))] (by as_aux_lemma => kernel_rfl) (by as_aux_lemma => kernel_rfl) ?_
          simp only [List.take_succ_cons, List.take_zero, List.drop_succ_cons, List.drop_zero]
          repeat (first | (refine tree_det (by rfl) _ (by rfl) (fun W hW => by go_simp; (try simp (disch := omega) only [IntWalk.i64_in]); try rfl) ?_; simp only [Act.put, List.setIfInBounds_toArray, List.set_cons_succ, List.set_cons_zero]) | (refine tree_skip (by rfl) (by rfl) ?_; simp only [Act.put, List.setIfInBounds_toArray, List.set_cons_succ, List.set_cons_zero]))
          refine tree_val _ (by rfl) (by rfl) 71 _ (fun W hW => by go_simp; try rfl) (fun W hE hF => by exact (by have := contains_any out (.slice oo out.length oc) (k : Int) W (HO.out.below (HSE.out.next hE.below).below (Nat.le_refl _)); rw [HOC.out] at this; exact this)) ?_
          simp only [Act.put, List.setIfInBounds_toArray, List.set_cons_succ, List.set_cons_zero]
          repeat (first | (refine tree_det (by rfl) _ (by rfl) (fun W hW => by go_simp; (try simp (disch := omega) only [IntWalk.i64_in]); try rfl) ?_; simp only [Act.put, List.setIfInBounds_toArray, List.set_cons_succ, List.set_cons_zero]) | (refine tree_skip (by rfl) (by rfl) ?_; simp only [Act.put, List.setIfInBounds_toArray, List.set_cons_succ, List.set_cons_zero]))
          intro W hE hF
          obtain ⟨hc, hf⟩ := bcell hE.below
          have hzE := hE.size
          (try simp only [World.size_alloc] at hzE)
          have HSN := Lib.hid (HSE.out.next hE.below)
          clear hE hF
          go_wp2_with fail
          go_roundw
          case rel => exact ⟨k + 1, by omega, by go_num, by rw [HOKN.out, HOC.out]; rfl, HSN.out⟩
          case measure => simp [intOf]; omega
        · have hoc' : out.contains (k : Int) = false := by simpa using hoc
          have HOC := Lib.hid hoc'
          clear hoc hoc'
          obtain ⟨q, hq⟩ : ∃ q, inB D tlo thi = q := ⟨_, rfl⟩
          have HQ := Lib.hid hq
          clear hq
          cases q
          · skip
            refine wp_region_rg 13 [] none [(2, Spec.val (.bool false)), (10, Spec.val (.bool false))] (by as_aux_lemma => kernel_rfl) (by as_aux_lemma => kernel_rfl) ?_
            simp only [List.take_succ_cons, List.take_zero, List.drop_succ_cons, List.drop_zero]
            repeat (first | (refine tree_det (by rfl) _ (by rfl) (fun W hW => by go_simp; (try simp (disch := omega) only [IntWalk.i64_in]); try rfl) ?_; simp only [Act.put, List.setIfInBounds_toArray, List.set_cons_succ, List.set_cons_zero]) | (refine tree_skip (by rfl) (by rfl) ?_; simp only [Act.put, List.setIfInBounds_toArray, List.set_cons_succ, List.set_cons_zero]))
            refine tree_val _ (by rfl) (by rfl) 71 _ (fun W hW => by go_simp; try rfl) (fun W hE hF => by exact (by have := contains_any out (.slice oo out.length oc) (k : Int) W (HO.out.below (HSE.out.next hE.below).below (Nat.le_refl _)); rw [HOC.out] at this; exact this)) ?_
            simp only [Act.put, List.setIfInBounds_toArray, List.set_cons_succ, List.set_cons_zero]
            repeat (first | (refine tree_det (by rfl) _ (by rfl) (fun W hW => by go_simp; (try simp (disch := omega) only [IntWalk.i64_in]); try rfl) ?_; simp only [Act.put, List.setIfInBounds_toArray, List.set_cons_succ, List.set_cons_zero]) | (refine tree_skip (by rfl) (by rfl) ?_; simp only [Act.put, List.setIfInBounds_toArray, List.set_cons_succ, List.set_cons_zero]))
            refine tree_det_on (by rfl) _ (by rfl) (fun W hE _ => by have := HLK.out W (hE.block _ HSE.out.tab.choose_spec.1.lt (by simp)); go_simp; try rfl) ?_
            simp only [Act.put, List.setIfInBounds_toArray, List.set_cons_succ, List.set_cons_zero]
            refine tree_val _ (by rfl) (by rfl) 81 _ (fun W hW => by go_simp; try rfl) (fun W hE hF => by exact (by have := whas_any (tlo, thi) D W; rw [HQ.out] at this; exact this)) ?_
            simp only [Act.put, List.setIfInBounds_toArray, List.set_cons_succ, List.set_cons_zero]
            repeat (first | (refine tree_det (by rfl) _ (by rfl) (fun W hW => by go_simp; (try simp (disch := omega) only [IntWalk.i64_in]); try rfl) ?_; simp only [Act.put, List.setIfInBounds_toArray, List.set_cons_succ, List.set_cons_zero]) | (refine tree_skip (by rfl) (by rfl) ?_; simp only [Act.put, List.setIfInBounds_toArray, List.set_cons_succ, List.set_cons_zero]))
            intro W hE hF
            obtain ⟨hc, hf⟩ := bcell hE.below
            have hzE := hE.size
            (try simp only [World.size_alloc] at hzE)
            have HSN := Lib.hid (HSE.out.next hE.below)
            clear hE hF
            go_wp2_with fail
            go_returns
            refine ⟨?_, HSN.out.below⟩
            have : rightF f out xs = false := by
              have h1 := HOKN.out
              rw [HOC.out, HQ.out] at h1
              cases hr : rightF f out xs
              · rfl
              · unfold rightF at hr
                rw [Bool.and_eq_true, List.all_eq_true] at hr
                unfold okTo at h1
                have : ((List.range (k + 1)).all fun i => out.contains (i : Int) || tallyR xs (f.tallies.getD i (0, 0, 0, (0, 0)))) = true := by
                  rw [List.all_eq_true]
                  exact fun i hi => hr.1 i (List.mem_range.2 (by have := List.mem_range.1 hi; omega))
                rw [this] at h1
                cases h1
            rw [this]
            simp
          · skip
            refine wp_region_rg 13 [] none [(2, Spec.val (.bool false)), (10, Spec.val (.bool true))] (by as_aux_lemma => kernel_rfl) (by as_aux_lemma => kernel_rfl) ?_
            simp only [List.take_succ_cons, List.take_zero, List.drop_succ_cons, List.drop_zero]
            repeat (first | (refine tree_det (by rfl) _ (by rfl) (fun W hW => by go_simp; (try simp (disch := omega) only [IntWalk.i64_in]); try rfl) ?_; simp only [Act.put, List.setIfInBounds_toArray, List.set_cons_succ, List.set_cons_zero]) | (refine tree_skip (by rfl) (by rfl) ?_; simp only [Act.put, List.setIfInBounds_toArray, List.set_cons_succ, List.set_cons_zero]))
            refine tree_val _ (by rfl) (by rfl) 71 _ (fun W hW => by go_simp; try rfl) (fun W hE hF => by exact (by have := contains_any out (.slice oo out.length oc) (k : Int) W (HO.out.below (HSE.out.next hE.below).below (Nat.le_refl _)); rw [HOC.out] at this; exact this)) ?_
            simp only [Act.put, List.setIfInBounds_toArray, List.set_cons_succ, List.set_cons_zero]
            repeat (first | (refine tree_det (by rfl) _ (by rfl) (fun W hW => by go_simp; (try simp (disch := omega) only [IntWalk.i64_in]); try rfl) ?_; simp only [Act.put, List.setIfInBounds_toArray, List.set_cons_succ, List.set_cons_zero]) | (refine tree_skip (by rfl) (by rfl) ?_; simp only [Act.put, List.setIfInBounds_toArray, List.set_cons_succ, List.set_cons_zero]))
            refine tree_det_on (by rfl) _ (by rfl) (fun W hE _ => by have := HLK.out W (hE.block _ HSE.out.tab.choose_spec.1.lt (by simp)); go_simp; try rfl) ?_
            simp only [Act.put, List.setIfInBounds_toArray, List.set_cons_succ, List.set_cons_zero]
            refine tree_val _ (by rfl) (by rfl) 81 _ (fun W hW => by go_simp; try rfl) (fun W hE hF => by exact (by have := whas_any (tlo, thi) D W; rw [HQ.out] at this; exact this)) ?_
            simp only [Act.put, List.setIfInBounds_toArray, List.set_cons_succ, List.set_cons_zero]
            repeat (first | (refine tree_det (by rfl) _ (by rfl) (fun W hW => by go_simp; (try simp (disch := omega) only [IntWalk.i64_in]); try rfl) ?_; simp only [Act.put, List.setIfInBounds_toArray, List.set_cons_succ, List.set_cons_zero]) | (refine tree_skip (by rfl) (by rfl) ?_; simp only [Act.put, List.setIfInBounds_toArray, List.set_cons_succ, List.set_cons_zero]))
            intro W hE hF
            obtain ⟨hc, hf⟩ := bcell hE.below
            have hzE := hE.size
            (try simp only [World.size_alloc] at hzE)
            have HSN := Lib.hid (HSE.out.next hE.below)
            clear hE hF
            go_wp2_with fail
            go_roundw
            case rel => exact ⟨k + 1, by omega, by go_num, by rw [HOKN.out, HOC.out, HQ.out]; rfl, HSN.out⟩
            case measure => simp [intOf]; omega
      | none =>
        rw [hl] at hlook
        simp only [Option.map_none, Option.getD_none, Option.isSome_none] at hlook
        have hlk := hlook true
        simp only [if_true] at hlk
        obtain ⟨cc0, cf0, cl0⟩ := cells_of_block hst6.b0
        have hb1 := hst6.b1
        rw [HX.out.2] at hb1
        obtain ⟨cc1, cf1, cl1⟩ := cells_of_block hb1
        obtain ⟨cc9, cf9, cl9⟩ := cells_of_block hk9
        obtain ⟨cc10, cf10, cl10⟩ := cells_of_block hk10
        have HS6 := Lib.hid hst6
        have HTT := Lib.hid (And.intro hT hTv)
        clear hlook hl hTv hT hst6 hb1
        go_upto_region 8 with (fail)
        refine wp_region_rg 10 [] none [(9, Spec.val (iv D))] (by as_aux_lemma => kernel_rfl) (by as_aux_lemma => kernel_rfl) ?_
        simp only [List.take_succ_cons, List.take_zero, List.drop_succ_cons, List.drop_zero]
        repeat (first | (refine tree_det (by rfl) _ (by rfl) (fun W hW => by go_simp; (try simp (disch := omega) only [IntWalk.i64_in]); try rfl) ?_; simp only [Act.put, List.setIfInBounds_toArray, List.set_cons_succ, List.set_cons_zero]) | (refine tree_skip (by rfl) (by rfl) ?_; simp only [Act.put, List.setIfInBounds_toArray, List.set_cons_succ, List.set_cons_zero]))
        refine tree_val _ (by rfl) (by rfl) 80 _ (fun W hW => by go_simp; try rfl) (fun W hE hF => by exact HC1.out W) ?_
        simp only [Act.put, List.setIfInBounds_toArray, List.set_cons_succ, List.set_cons_zero]
        intro W hE hF
        obtain ⟨hc, hf⟩ := bcell hE.below
        have hzE := hE.size
        (try simp only [World.size_alloc] at hzE)
        have hTW : TabAt strv iv (fun _ => True) W (w.heap.size + 2) T := HTT.out.1.below hE.below (Nat.le_refl _)
        obtain ⟨W8, hrun, hT8, hE8⟩ := store_run keyStr (mt := 126) (e := 3) (by kernel_rfl) hTW (tw, ta, tb) trivial D
        have hstW := HS6.out.next hE.below
        have hst8 : RtSt w f (.slice (some ⟨b, off, none⟩) f.tallies.length c) xs W8 := by
          refine ⟨(hE8.block _ (Array.getElem?_eq_some_iff.1 hstW.b0).1 (by simp)).trans hstW.b0, (hE8.block _ (Array.getElem?_eq_some_iff.1 hstW.b1).1 (by simp)).trans hstW.b1, ⟨_, hT8, fun k n h => ?_⟩, below_of_ext hstW.below hE8 (by omega)⟩
          rw [look_store] at h
          split at h
          · rename_i he
            subst he
            cases h
            exact HD.out.symm
          · exact HTT.out.2 _ _ h
        have hk9' : W8.heap[wr.heap.size]? = some (.cells #[iv tw, iv ta, iv tb, iv tlo, iv thi] 55 (0, 0)) :=
          (hE8.block _ (by have := hE.size; omega) (by have := HSt.out.tab.choose_spec.1.lt; simp; omega)).trans ((hE.block _ cl9 (by simp)).trans hk9)
        have hk10' : W8.heap[wr.heap.size + 1]? = some (.cells #[iv tw, iv ta, iv tb] 128 (0, 0)) :=
          (hE8.block _ (by have := hE.size; omega) (by have := HSt.out.tab.choose_spec.1.lt; simp; omega)).trans ((hE.block _ cl10 (by simp)).trans hk10)
        have HLK := Lib.hid (fun W hW => look_run keyStr (mt := 126) (e := 3) (by kernel_rfl) (z := iv 0) (fun W => by simp [go_sem]) hT8 (tw, ta, tb) trivial false W hW)
        rw [look_store, if_pos rfl] at HLK
        simp only [Option.map_some, Option.getD_some, Option.isSome_some, Bool.false_eq_true, if_false] at HLK
        have HSE := Lib.hid hst8
        clear hT8 hE8 hstW hst8 hTW hE hF cc0 cf0 cl0 cc1 cf1 cl1 cc9 cf9 cl9 cc10 cf10 cl10 hc hf hlk
        go_upto_region 9 with (fail)
        clear hrun
        obtain ⟨cc9, cf9, cl9⟩ := cells_of_block hk9'
        obtain ⟨cc10, cf10, cl10⟩ := cells_of_block hk10'
        have hokn : okTo f out xs (k + 1) = (out.contains (k : Int) || inB D tlo thi) := by
          unfold okTo at *
          have h1 := HOK.out
          rw [range_all_succ, h1, Bool.true_and, show f.tallies.getD k (0, 0, 0, (0, 0)) = (tw, ta, tb, (tlo, thi)) from by simp [List.getD, hlt, HTK.out]]
          unfold tallyR
          simp only
          rw [HD.out]
        have HOKN := Lib.hid hokn
        clear hokn
        by_cases hoc : out.contains (k : Int) = true
        · have HOC := Lib.hid hoc
          clear hoc
          refine wp_region_rg 13 [] none [(2, Spec.val (.bool true))] (by as_aux_lemma => kernel_rfl) (by as_aux_lemma => kernel_rfl) ?_
          simp only [List.take_succ_cons, List.take_zero, List.drop_succ_cons, List.drop_zero]
          repeat (first | (refine tree_det (by rfl) _ (by rfl) (fun W hW => by go_simp; (try simp (disch := omega) only [IntWalk.i64_in]); try rfl) ?_; simp only [Act.put, List.setIfInBounds_toArray, List.set_cons_succ, List.set_cons_zero]) | (refine tree_skip (by rfl) (by rfl) ?_; simp only [Act.put, List.setIfInBounds_toArray, List.set_cons_succ, List.set_cons_zero]))
          refine tree_val _ (by rfl) (by rfl) 71 _ (fun W hW => by go_simp; try rfl) (fun W hE hF => by exact (by have := contains_any out (.slice oo out.length oc) (k : Int) W (HO.out.below (HSE.out.next hE.below).below (Nat.le_refl _)); rw [HOC.out] at this; exact this)) ?_
          simp only [Act.put, List.setIfInBounds_toArray, List.set_cons_succ, List.set_cons_zero]
          repeat (first | (refine tree_det (by rfl) _ (by rfl) (fun W hW => by go_simp; (try simp (disch := omega) only [IntWalk.i64_in]); try rfl) ?_; simp only [Act.put, List.setIfInBounds_toArray, List.set_cons_succ, List.set_cons_zero]) | (refine tree_skip (by rfl) (by rfl) ?_; simp only [Act.put, List.setIfInBounds_toArray, List.set_cons_succ, List.set_cons_zero]))
          intro W hE hF
          obtain ⟨hc, hf⟩ := bcell hE.below
          have hzE := hE.size
          (try simp only [World.size_alloc] at hzE)
          have HSN := Lib.hid (HSE.out.next hE.below)
          clear hE hF
          go_wp2_with fail
          go_roundw
          case rel => exact ⟨k + 1, by omega, by go_num, by rw [HOKN.out, HOC.out]; rfl, HSN.out⟩
          case measure => simp [intOf]; omega
        · have hoc' : out.contains (k : Int) = false := by simpa using hoc
          have HOC := Lib.hid hoc'
          clear hoc hoc'
          obtain ⟨q, hq⟩ : ∃ q, inB D tlo thi = q := ⟨_, rfl⟩
          have HQ := Lib.hid hq
          clear hq
          cases q
          · skip
            refine wp_region_rg 13 [] none [(2, Spec.val (.bool false)), (10, Spec.val (.bool false))] (by as_aux_lemma => kernel_rfl) (by as_aux_lemma => kernel_rfl) ?_
            simp only [List.take_succ_cons, List.take_zero, List.drop_succ_cons, List.drop_zero]
            repeat (first | (refine tree_det (by rfl) _ (by rfl) (fun W hW => by go_simp; (try simp (disch := omega) only [IntWalk.i64_in]); try rfl) ?_; simp only [Act.put, List.setIfInBounds_toArray, List.set_cons_succ, List.set_cons_zero]) | (refine tree_skip (by rfl) (by rfl) ?_; simp only [Act.put, List.setIfInBounds_toArray, List.set_cons_succ, List.set_cons_zero]))
            refine tree_val _ (by rfl) (by rfl) 71 _ (fun W hW => by go_simp; try rfl) (fun W hE hF => by exact (by have := contains_any out (.slice oo out.length oc) (k : Int) W (HO.out.below (HSE.out.next hE.below).below (Nat.le_refl _)); rw [HOC.out] at this; exact this)) ?_
            simp only [Act.put, List.setIfInBounds_toArray, List.set_cons_succ, List.set_cons_zero]
            repeat (first | (refine tree_det (by rfl) _ (by rfl) (fun W hW => by go_simp; (try simp (disch := omega) only [IntWalk.i64_in]); try rfl) ?_; simp only [Act.put, List.setIfInBounds_toArray, List.set_cons_succ, List.set_cons_zero]) | (refine tree_skip (by rfl) (by rfl) ?_; simp only [Act.put, List.setIfInBounds_toArray, List.set_cons_succ, List.set_cons_zero]))
            refine tree_det_on (by rfl) _ (by rfl) (fun W hE _ => by have := HLK.out W (hE.block _ HSE.out.tab.choose_spec.1.lt (by simp)); go_simp; try rfl) ?_
            simp only [Act.put, List.setIfInBounds_toArray, List.set_cons_succ, List.set_cons_zero]
            refine tree_val _ (by rfl) (by rfl) 81 _ (fun W hW => by go_simp; try rfl) (fun W hE hF => by exact (by have := whas_any (tlo, thi) D W; rw [HQ.out] at this; exact this)) ?_
            simp only [Act.put, List.setIfInBounds_toArray, List.set_cons_succ, List.set_cons_zero]
            repeat (first | (refine tree_det (by rfl) _ (by rfl) (fun W hW => by go_simp; (try simp (disch := omega) only [IntWalk.i64_in]); try rfl) ?_; simp only [Act.put, List.setIfInBounds_toArray, List.set_cons_succ, List.set_cons_zero]) | (refine tree_skip (by rfl) (by rfl) ?_; simp only [Act.put, List.setIfInBounds_toArray, List.set_cons_succ, List.set_cons_zero]))
            intro W hE hF
            obtain ⟨hc, hf⟩ := bcell hE.below
            have hzE := hE.size
            (try simp only [World.size_alloc] at hzE)
            have HSN := Lib.hid (HSE.out.next hE.below)
            clear hE hF
            go_wp2_with fail
            go_returns
            refine ⟨?_, HSN.out.below⟩
            have : rightF f out xs = false := by
              have h1 := HOKN.out
              rw [HOC.out, HQ.out] at h1
              cases hr : rightF f out xs
              · rfl
              · unfold rightF at hr
                rw [Bool.and_eq_true, List.all_eq_true] at hr
                unfold okTo at h1
                have : ((List.range (k + 1)).all fun i => out.contains (i : Int) || tallyR xs (f.tallies.getD i (0, 0, 0, (0, 0)))) = true := by
                  rw [List.all_eq_true]
                  exact fun i hi => hr.1 i (List.mem_range.2 (by have := List.mem_range.1 hi; omega))
                rw [this] at h1
                cases h1
            rw [this]
            simp
          · skip
            refine wp_region_rg 13 [] none [(2, Spec.val (.bool false)), (10, Spec.val (.bool true))] (by as_aux_lemma => kernel_rfl) (by as_aux_lemma => kernel_rfl) ?_
            simp only [List.take_succ_cons, List.take_zero, List.drop_succ_cons, List.drop_zero]
            repeat (first | (refine tree_det (by rfl) _ (by rfl) (fun W hW => by go_simp; (try simp (disch := omega) only [IntWalk.i64_in]); try rfl) ?_; simp only [Act.put, List.setIfInBounds_toArray, List.set_cons_succ, List.set_cons_zero]) | (refine tree_skip (by rfl) (by rfl) ?_; simp only [Act.put, List.setIfInBounds_toArray, List.set_cons_succ, List.set_cons_zero]))
            refine tree_val _ (by rfl) (by rfl) 71 _ (fun W hW => by go_simp; try rfl) (fun W hE hF => by exact (by have := contains_any out (.slice oo out.length oc) (k : Int) W (HO.out.below (HSE.out.next hE.below).below (Nat.le_refl _)); rw [HOC.out] at this; exact this)) ?_
            simp only [Act.put, List.setIfInBounds_toArray, List.set_cons_succ, List.set_cons_zero]
            repeat (first | (refine tree_det (by rfl) _ (by rfl) (fun W hW => by go_simp; (try simp (disch := omega) only [IntWalk.i64_in]); try rfl) ?_; simp only [Act.put, List.setIfInBounds_toArray, List.set_cons_succ, List.set_cons_zero]) | (refine tree_skip (by rfl) (by rfl) ?_; simp only [Act.put, List.setIfInBounds_toArray, List.set_cons_succ, List.set_cons_zero]))
            refine tree_det_on (by rfl) _ (by rfl) (fun W hE _ => by have := HLK.out W (hE.block _ HSE.out.tab.choose_spec.1.lt (by simp)); go_simp; try rfl) ?_
            simp only [Act.put, List.setIfInBounds_toArray, List.set_cons_succ, List.set_cons_zero]
            refine tree_val _ (by rfl) (by rfl) 81 _ (fun W hW => by go_simp; try rfl) (fun W hE hF => by exact (by have := whas_any (tlo, thi) D W; rw [HQ.out] at this; exact this)) ?_
            simp only [Act.put, List.setIfInBounds_toArray, List.set_cons_succ, List.set_cons_zero]
            repeat (first | (refine tree_det (by rfl) _ (by rfl) (fun W hW => by go_simp; (try simp (disch := omega) only [IntWalk.i64_in]); try rfl) ?_; simp only [Act.put, List.setIfInBounds_toArray, List.set_cons_succ, List.set_cons_zero]) | (refine tree_skip (by rfl) (by rfl) ?_; simp only [Act.put, List.setIfInBounds_toArray, List.set_cons_succ, List.set_cons_zero]))
            intro W hE hF
            obtain ⟨hc, hf⟩ := bcell hE.below
            have hzE := hE.size
            (try simp only [World.size_alloc] at hzE)
            have HSN := Lib.hid (HSE.out.next hE.below)
            clear hE hF
            go_wp2_with fail
            go_roundw
            case rel => exact ⟨k + 1, by omega, by go_num, by rw [HOKN.out, HOC.out, HQ.out]; rfl, HSN.out⟩
            case measure => simp [intOf]; omega
    · have hkl : k = f.tallies.length := by omega
      subst hkl
      have hxs2 : aggI xs = .agg #[iv x0, iv x1, iv x2, iv x3, iv x4, iv x5, iv x6] := congrArg Value.agg HX.out.2
      have HL := Lib.hid (fun W => hxs2 ▸ done_any f (.slice o f.tallies.length c) xs HX.out.1 (-1) W HS.out.rows0 HS.out.rows1)
      obtain ⟨d, hd⟩ : ∃ d, doneF f xs (-1) = d := ⟨_, rfl⟩
      obtain ⟨q, hq⟩ : ∃ q, inB d f.left.1 f.left.2 = q := ⟨_, rfl⟩
      have HR : Hid (rightF f out xs = q) := Lib.hid (by
        rw [← hq, ← hd]
        have h1 := HOK.out
        unfold okTo at h1
        unfold rightF
        rw [h1, Bool.true_and]
        rfl)
      have HD := Lib.hid (And.intro hd hq)
      rw [hd] at HL
      clear hd hq hxs2 hst
      go_upto_region 12 with (fail)
      refine wp_region_rg 7 [] none [(4, Spec.val (iv d)), (5, Spec.val (.bool q))] (by as_aux_lemma => kernel_rfl) (by as_aux_lemma => kernel_rfl) ?_
      simp only [List.take_succ_cons, List.take_zero, List.drop_succ_cons, List.drop_zero]
      repeat (first | (refine tree_det (by rfl) _ (by rfl) (fun W hW => by go_simp; (try simp (disch := omega) only [IntWalk.i64_in]); try rfl) ?_; simp only [Act.put, List.setIfInBounds_toArray, List.set_cons_succ, List.set_cons_zero]) | (refine tree_skip (by rfl) (by rfl) ?_; simp only [Act.put, List.setIfInBounds_toArray, List.set_cons_succ, List.set_cons_zero]))
      refine tree_val _ (by rfl) (by rfl) 68 _ (fun W hW => by go_simp; try rfl) (fun W hE hF => by exact HL.out W) ?_
      simp only [Act.put, List.setIfInBounds_toArray, List.set_cons_succ, List.set_cons_zero]
      refine tree_val _ (by rfl) (by rfl) 81 _ (fun W hW => by go_simp; try rfl) (fun W hE hF => by exact (by have := whas_any f.left d W; rw [HD.out.2] at this; exact this)) ?_
      simp only [Act.put, List.setIfInBounds_toArray, List.set_cons_succ, List.set_cons_zero]
      repeat (first | (refine tree_det (by rfl) _ (by rfl) (fun W hW => by go_simp; (try simp (disch := omega) only [IntWalk.i64_in]); try rfl) ?_; simp only [Act.put, List.setIfInBounds_toArray, List.set_cons_succ, List.set_cons_zero]) | (refine tree_skip (by rfl) (by rfl) ?_; simp only [Act.put, List.setIfInBounds_toArray, List.set_cons_succ, List.set_cons_zero]))
      intro W hE hF
      obtain ⟨hc, hf⟩ := bcell hE.below
      have hzE := hE.size
      (try simp only [World.size_alloc] at hzE)
      have HSN := Lib.hid (HSt.out.next hE.below)
      clear hE hF
      go_wp2_with fail
      go_returns
      exact ⟨by rw [HR.out]; simp, HSN.out.below⟩

end Go.Proofs.Ytechgmnkcijahaa

/-
  Contracts of the small functions of package couch: each returns what is said, and turns nothing that was there.
  Contracts of slices.IndexFunc, slices.ContainsFunc and couch.all at the element types of package couch: over whatever function value, told by what each call of it does.
  Contracts of package couch, second part: readings, minima, ranges, turnings.
  Contracts of package couch, third part: turnings, and the error of a heap.
  Contracts of package couch, fourth part: the error of a heap, whole.
  Contracts of package couch, fifth part: the heap at work, and what spots cool to.
  Contracts of package couch, sixth part: the heats of a truth.
  Contracts of package couch, seventh part: Play and ProveTruth.
  Contracts of package couch, eighth part: Play and ProveTruth.
  Contracts of package couch, ninth part: ProveTruth.
-/
import Derived.WalkKit
import Derived.WalkLawsBesides
import Derived.WalkSpells
import Derived.Outline
import Derived.Handy
import Derived.KernelRfl
import Derived.Lib.Hide
import Derived.WalkKit
import Derived.WalkLawsBesides
import Derived.WalkSpells
import Derived.Outline
import Derived.Handy
import Derived.KernelRfl
import Derived.Test.YtoibfafmnaooaaaProg
import Derived.Test.YtoibfafmnaooaaaLib
import Derived.Test.YtoibfafmnaooaaaMath
import Derived.Shelf.Abstract
namespace Go.Proofs.Ytoibfafmnaooaaa
open Go.RowKit Go.RG Go.SL Cou
set_option maxHeartbeats 400000

abbrev iv (n : Int) : Value := .int .i64 n
abbrev rv (r : Rng) : Value := .agg #[.int .i64 r.1, .int .i64 r.2]
abbrev xv (x : Rdg) : Value := .agg #[.int .i64 x.1, .int .i64 x.2.1, .int .i64 x.2.2]
/-- A heap by value. -/
abbrev hv (h : HeapD) (wv tv xv : Value) : Value := .agg #[.int .i64 h.last, .int .i64 h.size, .int .i64 h.cool, .int .i64 h.die, .int .i64 h.burn, .int .i64 h.start.1, .int .i64 h.start.2, wv, tv, xv]

theorem within_any (n l h : Int) (w : World) : Calls Try.prog 110 #[iv n, iv l, iv h] w (PV (.bool (inB n l h)) w) := by
  by_cases h1 : l ≤ n
  all_goals
    go_enter Try.func110, Try.ntmps110
    go_wp2
    go_returns
    exact ⟨by simp [inB]; omega, Below.refl _ _⟩

theorem of_any (r : Rng) (n : Int) (w : World) : Calls Try.prog 123 #[rv r, iv n] w (PV (.bool (okR r n)) w) := by
  go_enter Try.func123, Try.ntmps123
  go_wp2
  all_goals
    go_returns
    exact ⟨by simp [okR]; omega, by go_grown⟩

theorem has_any (r : Rng) (n : Int) (w : World) : Calls Try.prog 107 #[rv r, iv n] w (PV (.bool (inB n r.1 r.2)) w) := by
  go_enter Try.func107, Try.ntmps107
  go_wp2_with (go_at_call 110; refine (within_any _ _ _ _).mono ?_; rintro e w' ⟨rfl, hb⟩)
  go_returns
  exact ⟨by simp, (Below.refl _ _).alloc (Nat.le_refl _) _ |>.trans (hb.mono (by simp))⟩

theorem size_any (r : Rng) (w : World) (h1 : 0 ≤ r.1) (h2 : r.1 ≤ r.2) (h3 : r.2 ≤ 100000) :
    Calls Try.prog 102 #[rv r] w (PV (iv (sizeR r)) w) := by
  go_enter Try.func102, Try.ntmps102
  go_wp2
  go_returns
  exact ⟨by simp [sizeR], by go_grown⟩

theorem wet_any (r : Rng) (w : World) : Calls Try.prog 99 #[rv r] w (PV (.bool (okR r 20)) w) := by
  go_enter Try.func99, Try.ntmps99
  go_wp2_with (go_at_call 123; refine (of_any _ _ _).mono ?_; rintro e w' ⟨rfl, hb⟩)
  go_returns
  exact ⟨by simp, (Below.refl _ _).alloc (Nat.le_refl _) _ |>.trans (hb.mono (by simp))⟩

theorem hour_any (h : HeapD) (a b c : Value) (n : Int) (w : World) : Calls Try.prog 122 #[hv h a b c, iv n] w (PV (.bool (inB n 0 h.last)) w) := by
  go_enter Try.func122, Try.ntmps122
  go_wp2_with (go_at_call 110; refine (within_any _ _ _ _).mono ?_; rintro e w' ⟨rfl, hb⟩)
  go_returns
  exact ⟨by simp, (Below.refl _ _).alloc (Nat.le_refl _) _ |>.trans (hb.mono (by simp))⟩

theorem hours_any (h : HeapD) (a b c : Value) (w : World) (h0 : 0 ≤ h.last) (h9 : h.last ≤ 9) : Calls Try.prog 82 #[hv h a b c] w (PV (iv (h.last + 1)) w) := by
  go_enter Try.func82, Try.ntmps82
  go_wp2
  go_returns
  exact ⟨by simp, by go_grown⟩

theorem burns_any (h : HeapD) (a b c : Value) (n : Int) (w : World) : Calls Try.prog 69 #[hv h a b c, iv n] w (PV (.bool (decide (h.burn < n))) w) := by
  go_enter Try.func69, Try.ntmps69
  go_wp2
  go_returns
  exact ⟨by simp, by go_grown⟩
theorem dies_any (h : HeapD) (a b c : Value) (n : Int) (w : World) : Calls Try.prog 70 #[hv h a b c, iv n] w (PV (.bool (decide (n < h.die))) w) := by
  go_enter Try.func70, Try.ntmps70
  go_wp2
  go_returns
  exact ⟨by simp, by go_grown⟩

theorem lost_any (h : HeapD) (a b c : Value) (n : Int) (w : World) : Calls Try.prog 67 #[hv h a b c, iv n] w (PV (.bool (decide (h.burn < n) || decide (n < h.die))) w) := by
  go_enter Try.func67, Try.ntmps67
  go_wp2_with (first | (go_at_call 69; refine (burns_any _ _ _ _ _ _).mono ?_; rintro e w' ⟨rfl, hb⟩; obtain ⟨hc, hf⟩ := bcell hb; have hz0 : w.heap.size < w'.heap.size := (by have := hb.size; (try simp only [World.size_alloc] at this); omega)) | (go_at_call 70; refine (dies_any _ _ _ _ _ _).mono ?_; rintro e w' ⟨rfl, hb⟩; obtain ⟨hc, hf⟩ := bcell hb; have hz0 : w.heap.size < w'.heap.size := (by have := hb.size; (try simp only [World.size_alloc] at this); omega)))
  all_goals
    go_returns
    exact ⟨by simp [*], (by repeat (first | exact Below.refl _ _ | assumption | refine bgo ?_ (by assumption) | refine bgoAlloc ?_ _ | refine bgoDrew ?_ | refine bgoSet ?_ (by simp; omega) _))⟩

theorem numbers_any (h : HeapD) (a b c : Value) (w : World) : Calls Try.prog 97 #[hv h a b c] w (PV (.bool (numbersOk h)) w) := by
  go_enter Try.func97, Try.ntmps97
  go_wp2_with (first | (go_at_call 110; refine (within_any _ _ _ _).mono ?_; rintro e w' ⟨rfl, hb⟩; obtain ⟨hc, hf⟩ := bcell hb; have hz0 : w.heap.size < w'.heap.size := (by have := hb.size; (try simp only [World.size_alloc] at this); omega)) | (go_at_call 123; refine (of_any (_, _) _ _).mono ?_; rintro e w' ⟨rfl, hb⟩; obtain ⟨hc, hf⟩ := bcell hb; have hz0 : w.heap.size < w'.heap.size := (by have := hb.size; (try simp only [World.size_alloc] at this); omega)))
  all_goals
    go_returns
    exact ⟨by simp only [numbersOk]; simp [*]; try omega, (by repeat (first | exact Below.refl _ _ | assumption | refine bgo ?_ (by assumption) | refine bgoAlloc ?_ _ | refine bgoDrew ?_ | refine bgoSet ?_ (by simp; omega) _))⟩

end Go.Proofs.Ytoibfafmnaooaaa

namespace Go.Proofs.Ytoibfafmnaooaaa
open Go.RowKit Go.RG Go.SL Go.Shelf Cou
set_option maxHeartbeats 400000

theorem idxR (l : List Rng) (v : Value) (fid : Nat) (fst caps : Array Value) (p : Nat → Bool) (I : Nat → World → Prop) (w : World) (eg : ∀ args w, (callFunc fid args).run Try.prog w = .ok (.enter fid args) w)
    (hsl : ∀ k W, I k W → PairsAt W v l)
    (hcall : ∀ k (hk : k < l.length) W, (∀ j, j < k → p j = false) → I k W → Calls Try.prog fid (fst.push (rv l[k]) ++ caps) W (fun e W' => e = .returned (.bool (p k)) ∧ I (k + 1) W')) (h0 : I 0 w) :
    Calls Try.prog 135 #[v, .func (.func fid) fst caps] w (IdxPost l.length p I (fun k => iv k) (iv (-1))) := by
  have hlen := (hsl 0 w h0).len
  obtain ⟨o, c, rfl⟩ := (hsl 0 w h0).open
  have HC := Lib.hid hcall
  have HS := Lib.hid hsl
  clear hcall hsl
  go_enter Try.func135, Try.ntmps135
  go_wp2
  go_loopw [4, 5, 8] (fun _ _ i wr => ∃ k : Nat, k ≤ l.length ∧ i = .int .i64 k ∧ (∀ j, j < k → p j = false) ∧ I k wr) (fun _ _ i _ => l.length - (intOf i).toNat)
  case atStart => exact ⟨0, Nat.zero_le _, rfl, fun j hj => by omega, h0⟩
  case round =>
    obtain ⟨k, hk, rfl, hno, hI⟩ := hrel
    by_cases hlt : k < l.length
    · obtain ⟨b, off, rfl, hb, hc0, hc1⟩ := PairsAt.cell (HS.out k wr hI) hlt
      have hC := HC.out k hlt wr hno hI
      have HN := Lib.hid hno
      clear hno
      go_wp2_with fail
      refine hC.mono ?_
      rintro e W1 ⟨rfl, hI1⟩
      have HI := Lib.hid hI1
      clear hI1 hI hC
      cases hp : p k
      · go_wp2_with fail
        go_roundw
        case rel => exact ⟨k + 1, by omega, by go_num, fun j hj => (by by_cases e : j = k; (subst e; exact hp); exact HN.out j (by omega)), HI.out⟩
        case measure => simp [intOf]; omega
      · go_wp2_with fail
        go_returns
        exact ⟨k, by omega, HN.out, .inl ⟨hlt, hp, by simp, HI.out⟩⟩
    · have hkl : k = l.length := by omega
      have HN := Lib.hid hno
      clear hno
      go_wp2_with fail
      go_returns
      exact ⟨k, by omega, HN.out, .inr ⟨hkl, by simp, by subst hkl; exact hI⟩⟩

theorem idxI (l : List Int) (v : Value) (fid : Nat) (fst caps : Array Value) (p : Nat → Bool) (I : Nat → World → Prop) (w : World) (eg : ∀ args w, (callFunc fid args).run Try.prog w = .ok (.enter fid args) w)
    (hsl : ∀ k W, I k W → IntsAt W v l)
    (hcall : ∀ k (hk : k < l.length) W, (∀ j, j < k → p j = false) → I k W → Calls Try.prog fid (fst.push (iv l[k]) ++ caps) W (fun e W' => e = .returned (.bool (p k)) ∧ I (k + 1) W')) (h0 : I 0 w) :
    Calls Try.prog 136 #[v, .func (.func fid) fst caps] w (IdxPost l.length p I (fun k => iv k) (iv (-1))) := by
  have hlen := (hsl 0 w h0).len
  obtain ⟨o, c, rfl⟩ := (hsl 0 w h0).open
  have HC := Lib.hid hcall
  have HS := Lib.hid hsl
  clear hcall hsl
  go_enter Try.func136, Try.ntmps136
  go_wp2
  go_loopw [4, 5, 8] (fun _ _ i wr => ∃ k : Nat, k ≤ l.length ∧ i = .int .i64 k ∧ (∀ j, j < k → p j = false) ∧ I k wr) (fun _ _ i _ => l.length - (intOf i).toNat)
  case atStart => exact ⟨0, Nat.zero_le _, rfl, fun j hj => by omega, h0⟩
  case round =>
    obtain ⟨k, hk, rfl, hno, hI⟩ := hrel
    by_cases hlt : k < l.length
    · obtain ⟨b, off, rfl, hb, hc0⟩ := IntsAt.cell (HS.out k wr hI) hlt
      have hC := HC.out k hlt wr hno hI
      have HN := Lib.hid hno
      clear hno
      go_wp2_with fail
      refine hC.mono ?_
      rintro e W1 ⟨rfl, hI1⟩
      have HI := Lib.hid hI1
      clear hI1 hI hC
      cases hp : p k
      · go_wp2_with fail
        go_roundw
        case rel => exact ⟨k + 1, by omega, by go_num, fun j hj => (by by_cases e : j = k; (subst e; exact hp); exact HN.out j (by omega)), HI.out⟩
        case measure => simp [intOf]; omega
      · go_wp2_with fail
        go_returns
        exact ⟨k, by omega, HN.out, .inl ⟨hlt, hp, by simp, HI.out⟩⟩
    · have hkl : k = l.length := by omega
      have HN := Lib.hid hno
      clear hno
      go_wp2_with fail
      go_returns
      exact ⟨k, by omega, HN.out, .inr ⟨hkl, by simp, by subst hkl; exact hI⟩⟩

theorem idxX (l : List Rdg) (v : Value) (fid : Nat) (fst caps : Array Value) (p : Nat → Bool) (I : Nat → World → Prop) (w : World) (eg : ∀ args w, (callFunc fid args).run Try.prog w = .ok (.enter fid args) w)
    (hsl : ∀ k W, I k W → TriplesAt W v l)
    (hcall : ∀ k (hk : k < l.length) W, (∀ j, j < k → p j = false) → I k W → Calls Try.prog fid (fst.push (xv l[k]) ++ caps) W (fun e W' => e = .returned (.bool (p k)) ∧ I (k + 1) W')) (h0 : I 0 w) :
    Calls Try.prog 134 #[v, .func (.func fid) fst caps] w (IdxPost l.length p I (fun k => iv k) (iv (-1))) := by
  have hlen := (hsl 0 w h0).len
  obtain ⟨o, c, rfl⟩ := (hsl 0 w h0).open
  have HC := Lib.hid hcall
  have HS := Lib.hid hsl
  clear hcall hsl
  go_enter Try.func134, Try.ntmps134
  go_wp2
  go_loopw [4, 5, 8] (fun _ _ i wr => ∃ k : Nat, k ≤ l.length ∧ i = .int .i64 k ∧ (∀ j, j < k → p j = false) ∧ I k wr) (fun _ _ i _ => l.length - (intOf i).toNat)
  case atStart => exact ⟨0, Nat.zero_le _, rfl, fun j hj => by omega, h0⟩
  case round =>
    obtain ⟨k, hk, rfl, hno, hI⟩ := hrel
    by_cases hlt : k < l.length
    · obtain ⟨b, off, rfl, hb, hc0, hc1, hc2⟩ := TriplesAt.cell (HS.out k wr hI) hlt
      have hC := HC.out k hlt wr hno hI
      have HN := Lib.hid hno
      clear hno
      go_wp2_with fail
      refine hC.mono ?_
      rintro e W1 ⟨rfl, hI1⟩
      have HI := Lib.hid hI1
      clear hI1 hI hC
      cases hp : p k
      · go_wp2_with fail
        go_roundw
        case rel => exact ⟨k + 1, by omega, by go_num, fun j hj => (by by_cases e : j = k; (subst e; exact hp); exact HN.out j (by omega)), HI.out⟩
        case measure => simp [intOf]; omega
      · go_wp2_with fail
        go_returns
        exact ⟨k, by omega, HN.out, .inl ⟨hlt, hp, by simp, HI.out⟩⟩
    · have hkl : k = l.length := by omega
      have HN := Lib.hid hno
      clear hno
      go_wp2_with fail
      go_returns
      exact ⟨k, by omega, HN.out, .inr ⟨hkl, by simp, by subst hkl; exact hI⟩⟩

theorem contR (l : List Rng) (v : Value) (fid : Nat) (fst caps : Array Value) (p : Nat → Bool) (I : Nat → World → Prop) (w : World) (eg : ∀ args w, (callFunc fid args).run Try.prog w = .ok (.enter fid args) w)
    (hsl : ∀ k W, I k W → PairsAt W v l)
    (hcall : ∀ k (hk : k < l.length) W, (∀ j, j < k → p j = false) → I k W → Calls Try.prog fid (fst.push (rv l[k]) ++ caps) W (fun e W' => e = .returned (.bool (p k)) ∧ I (k + 1) W')) (h0 : I 0 w) :
    Calls Try.prog 124 #[v, .func (.func fid) fst caps] w (IdxPost l.length p I (fun _ => .bool true) (.bool false)) := by
  have HI := Lib.hid (idxR l v fid fst caps p I w eg hsl hcall h0)
  have hlen := (hsl 0 w h0).len
  clear hsl hcall h0 eg
  go_enter Try.func124, Try.ntmps124
  go_wp2_with fail
  refine HI.out.mono ?_
  clear HI
  rintro e W' ⟨k, hk, hno, ⟨hlt, hp, rfl, hI⟩ | ⟨hkl, rfl, hI⟩⟩
  · have HN := Lib.hid (And.intro hno (And.intro hp hI))
    clear hno hp hI
    go_wp2_with fail
    go_returns
    exact ⟨k, hk, HN.out.1, .inl ⟨hlt, HN.out.2.1, by simp, HN.out.2.2⟩⟩
  · have HN := Lib.hid (And.intro hno (And.intro hkl hI))
    clear hno hkl hI
    go_wp2_with fail
    go_returns
    exact ⟨k, hk, HN.out.1, .inr ⟨HN.out.2.1, by simp, HN.out.2.1 ▸ HN.out.2.2⟩⟩

theorem contI (l : List Int) (v : Value) (fid : Nat) (fst caps : Array Value) (p : Nat → Bool) (I : Nat → World → Prop) (w : World) (eg : ∀ args w, (callFunc fid args).run Try.prog w = .ok (.enter fid args) w)
    (hsl : ∀ k W, I k W → IntsAt W v l)
    (hcall : ∀ k (hk : k < l.length) W, (∀ j, j < k → p j = false) → I k W → Calls Try.prog fid (fst.push (iv l[k]) ++ caps) W (fun e W' => e = .returned (.bool (p k)) ∧ I (k + 1) W')) (h0 : I 0 w) :
    Calls Try.prog 127 #[v, .func (.func fid) fst caps] w (IdxPost l.length p I (fun _ => .bool true) (.bool false)) := by
  have HI := Lib.hid (idxI l v fid fst caps p I w eg hsl hcall h0)
  have hlen := (hsl 0 w h0).len
  clear hsl hcall h0 eg
  go_enter Try.func127, Try.ntmps127
  go_wp2_with fail
  refine HI.out.mono ?_
  clear HI
  rintro e W' ⟨k, hk, hno, ⟨hlt, hp, rfl, hI⟩ | ⟨hkl, rfl, hI⟩⟩
  · have HN := Lib.hid (And.intro hno (And.intro hp hI))
    clear hno hp hI
    go_wp2_with fail
    go_returns
    exact ⟨k, hk, HN.out.1, .inl ⟨hlt, HN.out.2.1, by simp, HN.out.2.2⟩⟩
  · have HN := Lib.hid (And.intro hno (And.intro hkl hI))
    clear hno hkl hI
    go_wp2_with fail
    go_returns
    exact ⟨k, hk, HN.out.1, .inr ⟨HN.out.2.1, by simp, HN.out.2.1 ▸ HN.out.2.2⟩⟩

theorem contX (l : List Rdg) (v : Value) (fid : Nat) (fst caps : Array Value) (p : Nat → Bool) (I : Nat → World → Prop) (w : World) (eg : ∀ args w, (callFunc fid args).run Try.prog w = .ok (.enter fid args) w)
    (hsl : ∀ k W, I k W → TriplesAt W v l)
    (hcall : ∀ k (hk : k < l.length) W, (∀ j, j < k → p j = false) → I k W → Calls Try.prog fid (fst.push (xv l[k]) ++ caps) W (fun e W' => e = .returned (.bool (p k)) ∧ I (k + 1) W')) (h0 : I 0 w) :
    Calls Try.prog 120 #[v, .func (.func fid) fst caps] w (IdxPost l.length p I (fun _ => .bool true) (.bool false)) := by
  have HI := Lib.hid (idxX l v fid fst caps p I w eg hsl hcall h0)
  have hlen := (hsl 0 w h0).len
  clear hsl hcall h0 eg
  go_enter Try.func120, Try.ntmps120
  go_wp2_with fail
  refine HI.out.mono ?_
  clear HI
  rintro e W' ⟨k, hk, hno, ⟨hlt, hp, rfl, hI⟩ | ⟨hkl, rfl, hI⟩⟩
  · have HN := Lib.hid (And.intro hno (And.intro hp hI))
    clear hno hp hI
    go_wp2_with fail
    go_returns
    exact ⟨k, hk, HN.out.1, .inl ⟨hlt, HN.out.2.1, by simp, HN.out.2.2⟩⟩
  · have HN := Lib.hid (And.intro hno (And.intro hkl hI))
    clear hno hkl hI
    go_wp2_with fail
    go_returns
    exact ⟨k, hk, HN.out.1, .inr ⟨HN.out.2.1, by simp, HN.out.2.1 ▸ HN.out.2.2⟩⟩

theorem all1R (x : Rng) (bx fid : Nat) (fst caps : Array Value) (b : Bool) (W : World) (R : World → Prop) (eg : ∀ args w, (callFunc fid args).run Try.prog w = .ok (.enter fid args) w)
    (hbx : W.cell? ⟨bx, 0, none⟩ = some (.func (.func fid) fst caps))
    (hcall : Calls Try.prog fid (fst.push (rv x) ++ caps) (W.alloc (.cells #[iv x.1, iv x.2] 36)) (fun e W' => e = .returned (.bool b) ∧ R W')) :
    Calls Try.prog 125 #[rv x, .pointer (some ⟨bx, 0, none⟩)] W (fun e W' => e = .returned (.bool !b) ∧ R W') := by
  have hlt := World.block_lt_of_cell? W _ hbx
  have HC := Lib.hid hcall
  clear hcall
  go_enter Try.func125, Try.ntmps125
  go_wp2_with fail
  refine HC.out.mono ?_
  rintro e W' ⟨rfl, hR⟩
  have HR := Lib.hid hR
  clear hR
  go_wp2_with fail
  go_returns
  exact ⟨by simp, HR.out⟩

theorem all1I (x : Int) (bx fid : Nat) (fst caps : Array Value) (b : Bool) (W : World) (R : World → Prop) (eg : ∀ args w, (callFunc fid args).run Try.prog w = .ok (.enter fid args) w)
    (hbx : W.cell? ⟨bx, 0, none⟩ = some (.func (.func fid) fst caps))
    (hcall : Calls Try.prog fid (fst.push (iv x) ++ caps) W (fun e W' => e = .returned (.bool b) ∧ R W')) :
    Calls Try.prog 128 #[iv x, .pointer (some ⟨bx, 0, none⟩)] W (fun e W' => e = .returned (.bool !b) ∧ R W') := by
  have hlt := World.block_lt_of_cell? W _ hbx
  have HC := Lib.hid hcall
  clear hcall
  go_enter Try.func128, Try.ntmps128
  go_wp2_with fail
  refine HC.out.mono ?_
  rintro e W' ⟨rfl, hR⟩
  have HR := Lib.hid hR
  clear hR
  go_wp2_with fail
  go_returns
  exact ⟨by simp, HR.out⟩

theorem all1X (x : Rdg) (bx fid : Nat) (fst caps : Array Value) (b : Bool) (W : World) (R : World → Prop) (eg : ∀ args w, (callFunc fid args).run Try.prog w = .ok (.enter fid args) w)
    (hbx : W.cell? ⟨bx, 0, none⟩ = some (.func (.func fid) fst caps))
    (hcall : Calls Try.prog fid (fst.push (xv x) ++ caps) (W.alloc (.cells #[iv x.1, iv x.2.1, iv x.2.2] 104)) (fun e W' => e = .returned (.bool b) ∧ R W')) :
    Calls Try.prog 121 #[xv x, .pointer (some ⟨bx, 0, none⟩)] W (fun e W' => e = .returned (.bool !b) ∧ R W') := by
  have hlt := World.block_lt_of_cell? W _ hbx
  have HC := Lib.hid hcall
  clear hcall
  go_enter Try.func121, Try.ntmps121
  go_wp2_with fail
  refine HC.out.mono ?_
  rintro e W' ⟨rfl, hR⟩
  have HR := Lib.hid hR
  clear hR
  go_wp2_with fail
  go_returns
  exact ⟨by simp, HR.out⟩

theorem allR (l : List Rng) (v : Value) (fid : Nat) (fst caps : Array Value) (p : Nat → Bool) (I : Nat → World → Prop) (w : World) (eg : ∀ args w, (callFunc fid args).run Try.prog w = .ok (.enter fid args) w)
    (hsl : ∀ k W, I k W → PairsAt W v l) (hal : ∀ k W o, I k W → I k (W.alloc o))
    (hcall : ∀ k (hk : k < l.length) W, (∀ j, j < k → p j = true) → I k W → Calls Try.prog fid (fst.push (rv l[k]) ++ caps) W (fun e W' => e = .returned (.bool (p k)) ∧ I (k + 1) W' ∧ FromOn w.heap.size W W')) (h0 : I 0 w) :
    Calls Try.prog 98 #[v, .func (.func fid) fst caps] w (IdxPost l.length (fun k => !p k) I (fun _ => .bool false) (.bool true)) := by
  have HI := Lib.hid (contR l v 125 #[] #[.pointer (some ⟨w.heap.size, 0, none⟩)] (fun k => !p k)
    (fun k W => I k W ∧ W.heap[w.heap.size]? = some (.cells #[.func (.func fid) fst caps] 143 (0, 0))) (w.alloc (.cells #[.func (.func fid) fst caps] 143))
    (enters_of Try.func125 (by kernel_rfl) rfl) (fun k W h => hsl k W h.1)
    (fun k hk W hno h => by
      have hlt : w.heap.size < W.heap.size := (Array.getElem?_eq_some_iff.1 h.2).1
      refine (all1R l[k] w.heap.size fid fst caps (p k) W (fun W' => I (k + 1) W' ∧ W'.heap[w.heap.size]? = some (.cells #[.func (.func fid) fst caps] 143 (0, 0))) eg (cell_of_block0 h.2) ?_)
      refine (hcall k hk _ (fun j hj => by simpa using hno j hj) (by first | exact hal _ _ _ h.1 | exact h.1)).mono ?_
      rintro e W' ⟨rfl, h1, h2⟩
      refine ⟨rfl, h1, (h2.block _ (Nat.le_refl _) (by first | exact hlt | (simp; omega))).trans (by first | exact h.2 | exact (Below.heap_alloc _ _ _ hlt).trans h.2)⟩)
    ⟨hal _ _ _ h0, heap_alloc_new w _⟩)
  have hlen := (hsl 0 w h0).len
  clear hsl hcall h0 eg hal
  go_enter Try.func98, Try.ntmps98
  go_wp2_with fail
  refine HI.out.mono ?_
  clear HI
  rintro e W' ⟨k, hk, hno, ⟨hlt, hp, rfl, hI, _⟩ | ⟨hkl, rfl, hI, _⟩⟩
  · have HN := Lib.hid (And.intro hno (And.intro hp hI))
    clear hno hp hI
    go_wp2_with fail
    go_returns
    exact ⟨k, hk, HN.out.1, .inl ⟨hlt, HN.out.2.1, by simp, HN.out.2.2⟩⟩
  · have HN := Lib.hid (And.intro hno (And.intro hkl hI))
    clear hno hkl hI
    go_wp2_with fail
    go_returns
    exact ⟨k, hk, HN.out.1, .inr ⟨HN.out.2.1, by simp, HN.out.2.1 ▸ HN.out.2.2⟩⟩

theorem allI (l : List Int) (v : Value) (fid : Nat) (fst caps : Array Value) (p : Nat → Bool) (I : Nat → World → Prop) (w : World) (eg : ∀ args w, (callFunc fid args).run Try.prog w = .ok (.enter fid args) w)
    (hsl : ∀ k W, I k W → IntsAt W v l) (hal : ∀ k W o, I k W → I k (W.alloc o))
    (hcall : ∀ k (hk : k < l.length) W, (∀ j, j < k → p j = true) → I k W → Calls Try.prog fid (fst.push (iv l[k]) ++ caps) W (fun e W' => e = .returned (.bool (p k)) ∧ I (k + 1) W' ∧ FromOn w.heap.size W W')) (h0 : I 0 w) :
    Calls Try.prog 108 #[v, .func (.func fid) fst caps] w (IdxPost l.length (fun k => !p k) I (fun _ => .bool false) (.bool true)) := by
  have HI := Lib.hid (contI l v 128 #[] #[.pointer (some ⟨w.heap.size, 0, none⟩)] (fun k => !p k)
    (fun k W => I k W ∧ W.heap[w.heap.size]? = some (.cells #[.func (.func fid) fst caps] 111 (0, 0))) (w.alloc (.cells #[.func (.func fid) fst caps] 111))
    (enters_of Try.func128 (by kernel_rfl) rfl) (fun k W h => hsl k W h.1)
    (fun k hk W hno h => by
      have hlt : w.heap.size < W.heap.size := (Array.getElem?_eq_some_iff.1 h.2).1
      refine (all1I l[k] w.heap.size fid fst caps (p k) W (fun W' => I (k + 1) W' ∧ W'.heap[w.heap.size]? = some (.cells #[.func (.func fid) fst caps] 111 (0, 0))) eg (cell_of_block0 h.2) ?_)
      refine (hcall k hk _ (fun j hj => by simpa using hno j hj) (by first | exact hal _ _ _ h.1 | exact h.1)).mono ?_
      rintro e W' ⟨rfl, h1, h2⟩
      refine ⟨rfl, h1, (h2.block _ (Nat.le_refl _) (by first | exact hlt | (simp; omega))).trans (by first | exact h.2 | exact (Below.heap_alloc _ _ _ hlt).trans h.2)⟩)
    ⟨hal _ _ _ h0, heap_alloc_new w _⟩)
  have hlen := (hsl 0 w h0).len
  clear hsl hcall h0 eg hal
  go_enter Try.func108, Try.ntmps108
  go_wp2_with fail
  refine HI.out.mono ?_
  clear HI
  rintro e W' ⟨k, hk, hno, ⟨hlt, hp, rfl, hI, _⟩ | ⟨hkl, rfl, hI, _⟩⟩
  · have HN := Lib.hid (And.intro hno (And.intro hp hI))
    clear hno hp hI
    go_wp2_with fail
    go_returns
    exact ⟨k, hk, HN.out.1, .inl ⟨hlt, HN.out.2.1, by simp, HN.out.2.2⟩⟩
  · have HN := Lib.hid (And.intro hno (And.intro hkl hI))
    clear hno hkl hI
    go_wp2_with fail
    go_returns
    exact ⟨k, hk, HN.out.1, .inr ⟨HN.out.2.1, by simp, HN.out.2.1 ▸ HN.out.2.2⟩⟩

theorem allX (l : List Rdg) (v : Value) (fid : Nat) (fst caps : Array Value) (p : Nat → Bool) (I : Nat → World → Prop) (w : World) (eg : ∀ args w, (callFunc fid args).run Try.prog w = .ok (.enter fid args) w)
    (hsl : ∀ k W, I k W → TriplesAt W v l) (hal : ∀ k W o, I k W → I k (W.alloc o))
    (hcall : ∀ k (hk : k < l.length) W, (∀ j, j < k → p j = true) → I k W → Calls Try.prog fid (fst.push (xv l[k]) ++ caps) W (fun e W' => e = .returned (.bool (p k)) ∧ I (k + 1) W' ∧ FromOn w.heap.size W W')) (h0 : I 0 w) :
    Calls Try.prog 93 #[v, .func (.func fid) fst caps] w (IdxPost l.length (fun k => !p k) I (fun _ => .bool false) (.bool true)) := by
  have HI := Lib.hid (contX l v 121 #[] #[.pointer (some ⟨w.heap.size, 0, none⟩)] (fun k => !p k)
    (fun k W => I k W ∧ W.heap[w.heap.size]? = some (.cells #[.func (.func fid) fst caps] 141 (0, 0))) (w.alloc (.cells #[.func (.func fid) fst caps] 141))
    (enters_of Try.func121 (by kernel_rfl) rfl) (fun k W h => hsl k W h.1)
    (fun k hk W hno h => by
      have hlt : w.heap.size < W.heap.size := (Array.getElem?_eq_some_iff.1 h.2).1
      refine (all1X l[k] w.heap.size fid fst caps (p k) W (fun W' => I (k + 1) W' ∧ W'.heap[w.heap.size]? = some (.cells #[.func (.func fid) fst caps] 141 (0, 0))) eg (cell_of_block0 h.2) ?_)
      refine (hcall k hk _ (fun j hj => by simpa using hno j hj) (by first | exact hal _ _ _ h.1 | exact h.1)).mono ?_
      rintro e W' ⟨rfl, h1, h2⟩
      refine ⟨rfl, h1, (h2.block _ (Nat.le_refl _) (by first | exact hlt | (simp; omega))).trans (by first | exact h.2 | exact (Below.heap_alloc _ _ _ hlt).trans h.2)⟩)
    ⟨hal _ _ _ h0, heap_alloc_new w _⟩)
  have hlen := (hsl 0 w h0).len
  clear hsl hcall h0 eg hal
  go_enter Try.func93, Try.ntmps93
  go_wp2_with fail
  refine HI.out.mono ?_
  clear HI
  rintro e W' ⟨k, hk, hno, ⟨hlt, hp, rfl, hI, _⟩ | ⟨hkl, rfl, hI, _⟩⟩
  · have HN := Lib.hid (And.intro hno (And.intro hp hI))
    clear hno hp hI
    go_wp2_with fail
    go_returns
    exact ⟨k, hk, HN.out.1, .inl ⟨hlt, HN.out.2.1, by simp, HN.out.2.2⟩⟩
  · have HN := Lib.hid (And.intro hno (And.intro hkl hI))
    clear hno hkl hI
    go_wp2_with fail
    go_returns
    exact ⟨k, hk, HN.out.1, .inr ⟨HN.out.2.1, by simp, HN.out.2.1 ▸ HN.out.2.2⟩⟩

end Go.Proofs.Ytoibfafmnaooaaa

namespace Go.Proofs.Ytoibfafmnaooaaa
open Go.RowKit Go.RG Go.SL Go.Shelf Cou
set_option maxHeartbeats 400000
set_option maxRecDepth 10000

theorem reading_any (h : HeapD) (a b c : Value) (x : Rdg) (w : World) : Calls Try.prog 96 #[hv h a b c, xv x] w (PV (.bool (okRdg h.last x)) w) := by
  go_enter Try.func96, Try.ntmps96
  go_wp2_with (first | (go_at_call 122; refine (hour_any h _ _ _ _ _).mono ?_; rintro e w' ⟨rfl, hb⟩; obtain ⟨hc, hf⟩ := bcell hb; have hz0 : w.heap.size < w'.heap.size := (by have := hb.size; (try simp only [World.size_alloc] at this); omega); have hz1 : w.heap.size + 1 < w'.heap.size := (by have := hb.size; (try simp only [World.size_alloc] at this); omega)) | (go_at_call 110; refine (within_any _ _ _ _).mono ?_; rintro e w' ⟨rfl, hb⟩; obtain ⟨hc, hf⟩ := bcell hb; have hz0 : w.heap.size < w'.heap.size := (by have := hb.size; (try simp only [World.size_alloc] at this); omega); have hz1 : w.heap.size + 1 < w'.heap.size := (by have := hb.size; (try simp only [World.size_alloc] at this); omega)))
  all_goals
    go_returns
    exact ⟨by simp [okRdg, *], (by repeat (first | exact Below.refl _ _ | assumption | refine bgo ?_ (by assumption) | refine bgoAlloc ?_ _ | refine bgoDrew ?_ | refine bgoSet ?_ (by simp; omega) _))⟩

theorem right_any (x : Rdg) (l0 l1 l2 l3 l4 l5 l6 l7 l8 l9 : Int) (w : World) (h0 : 0 ≤ x.1) (h9 : x.1 ≤ 9) (hs0 : 0 ≤ x.2.1) (hs1 : x.2.1 ≤ 1000) (he0 : 0 ≤ x.2.2) (he1 : x.2.2 ≤ 50)
    (hl : ∀ n ∈ [l0, l1, l2, l3, l4, l5, l6, l7, l8, l9], 0 ≤ n ∧ n ≤ 100000) :
    Calls Try.prog 95 #[xv x, .agg #[iv l0, iv l1, iv l2, iv l3, iv l4, iv l5, iv l6, iv l7, iv l8, iv l9]] w (PV (.bool (rightR x [l0, l1, l2, l3, l4, l5, l6, l7, l8, l9])) w) := by
  obtain ⟨hh, xs, xe⟩ := x
  simp only at h0 h9 hs0 hs1 he0 he1
  obtain ⟨k, rfl⟩ := Int.eq_ofNat_of_zero_le h0
  have hk : k < 10 := by omega
  have hlk := hl ([l0, l1, l2, l3, l4, l5, l6, l7, l8, l9][k]'(by simpa using hk)) (List.getElem_mem _)
  generalize hm : [l0, l1, l2, l3, l4, l5, l6, l7, l8, l9][k]'(by simpa using hk) = m at hlk
  have hcell : (w.alloc (.cells #[iv k, iv xs, iv xe] 104) |>.alloc (.cells #[iv l0, iv l1, iv l2, iv l3, iv l4, iv l5, iv l6, iv l7, iv l8, iv l9] 127)).cell? ⟨w.heap.size + 1, k, none⟩ = some (iv m) := by
    have : ([iv l0, iv l1, iv l2, iv l3, iv l4, iv l5, iv l6, iv l7, iv l8, iv l9] : List Value)[k]? = some (iv m) := by
      have : ([l0, l1, l2, l3, l4, l5, l6, l7, l8, l9].map iv)[k]? = some (iv m) := by
        rw [List.getElem?_map, List.getElem?_eq_getElem (by simpa using hk), hm]; rfl
      exact this
    simp only [World.cell?]
    rw [show (w.alloc (.cells #[iv k, iv xs, iv xe] 104) |>.alloc (.cells #[iv l0, iv l1, iv l2, iv l3, iv l4, iv l5, iv l6, iv l7, iv l8, iv l9] 127)).heap[w.heap.size + 1]? = some (.cells #[iv l0, iv l1, iv l2, iv l3, iv l4, iv l5, iv l6, iv l7, iv l8, iv l9] 127) from by
      have := heap_alloc_new (w.alloc (.cells #[iv k, iv xs, iv xe] 104)) (.cells #[iv l0, iv l1, iv l2, iv l3, iv l4, iv l5, iv l6, iv l7, iv l8, iv l9] 127)
      rwa [World.size_alloc] at this]
    simpa using this
  have hr : rightR ((k : Int), xs, xe) [l0, l1, l2, l3, l4, l5, l6, l7, l8, l9] = inB (m - xs) (-xe) xe := by
    simp only [rightR, Int.toNat_natCast, List.getD_eq_getElem?_getD]
    rw [List.getElem?_eq_getElem (by simpa using hk), hm]; rfl
  have HR := Lib.hid hr
  clear hr hm hl
  have hk' : (k : Int) < 10 := by omega
  go_enter Try.func95, Try.ntmps95
  go_wp2_with fail
  refine wp_region_rg 13 [] none [(12, Spec.val (.bool (inB (m - xs) (-xe) xe)))] (by kernel_rfl) (by kernel_rfl) ?_
  simp only [List.take_succ_cons, List.take_zero, List.drop_succ_cons, List.drop_zero]
  repeat (refine tree_det (by rfl) _ (by rfl) (fun W hW => by go_simp; (try simp (disch := omega) only [IntWalk.i64_in]); try rfl) ?_; simp only [Act.put, List.setIfInBounds_toArray, List.set_cons_succ, List.set_cons_zero])
  refine tree_val _ (by rfl) (by rfl) 110 _ (fun W hW => by go_simp; (try simp (disch := omega) only [IntWalk.i64_in, Int.tdiv_eq_ediv_of_nonneg]); try rfl) (fun W hE hF => by exact within_any _ _ _ _) ?_
  simp only [Act.put, List.setIfInBounds_toArray, List.set_cons_succ, List.set_cons_zero]
  repeat (refine tree_det (by rfl) _ (by rfl) (fun W hW => by go_simp; (try simp (disch := omega) only [IntWalk.i64_in, Int.tdiv_eq_ediv_of_nonneg]); try rfl) ?_; simp only [Act.put, List.setIfInBounds_toArray, List.set_cons_succ, List.set_cons_zero])
  intro W hE hF
  obtain ⟨hc, hf⟩ := bcell hE.below
  have hzE := hE.size
  (try simp only [World.size_alloc] at hzE)
  go_wp2
  go_returns
  rw [HR.out]
  exact ⟨by simp, (by repeat (first | exact Below.refl _ _ | assumption | refine bgo ?_ hE.below | refine bgoAlloc ?_ _ | refine bgoDrew ?_))⟩

theorem min_two (a b : Int) (g c : Nat) (w : World) (h0 : w.cell? ⟨g, 0, none⟩ = some (iv a)) (h1 : w.cell? ⟨g, 1, none⟩ = some (iv b)) :
    Calls Try.prog 126 #[.slice (some ⟨g, 0, none⟩) 2 c] w (PV (iv (min a b)) w) := by
  go_enter Try.func126, Try.ntmps126
  go_wp2
  go_rounds 2
  all_goals
    go_returns
    exact ⟨by simp; omega, Below.refl _ _⟩

theorem minimum_two (a b : Int) (g c : Nat) (w : World) (h0 : w.cell? ⟨g, 0, none⟩ = some (iv a)) (h1 : w.cell? ⟨g, 1, none⟩ = some (iv b)) :
    Calls Try.prog 101 #[.slice (some ⟨g, 0, none⟩) 2 c] w (PV (iv (min a b)) w) := by
  have H := Lib.hid (min_two a b g c w h0 h1)
  go_enter Try.func101, Try.ntmps101
  go_wp2_with fail
  refine H.out.mono ?_
  rintro e w' ⟨rfl, hb⟩
  go_wp2_with fail
  go_returns
  exact ⟨by simp, hb⟩

theorem wider_any (r : Rng) (n : Int) (w : World) : Calls Try.prog 105 #[rv r, iv n] w (PV (rv (min r.1 n, max r.2 n)) w) := by
  go_enter Try.func105, Try.ntmps105
  go_wp2_with fail
  refine wp_region_rg 10 [] none [(3, Spec.slice (w.heap.size + 2) #[iv r.1, iv n] 3 2), (4, Spec.val (iv (min r.1 n)))] (by kernel_rfl) (by kernel_rfl) ?_
  simp only [List.take_succ_cons, List.take_zero, List.drop_succ_cons, List.drop_zero]
  repeat (refine tree_det (by rfl) _ (by rfl) (fun W hW => by go_simp; (try simp (disch := omega) only [IntWalk.i64_in, Int.tdiv_eq_ediv_of_nonneg]); try rfl) ?_; simp only [Act.put, List.setIfInBounds_toArray, List.set_cons_succ, List.set_cons_zero])
  refine tree_slice (w.heap.size + 2) _ _ _ (by rfl) (by simp) (by rfl) (by simp) (by simp) (fun W hW => by go_simp; try rfl) (fun b => ?_)
  simp only [Act.put, List.setIfInBounds_toArray, List.set_cons_succ, List.set_cons_zero]
  refine tree_val _ (by rfl) (by rfl) 101 _ (fun W hW => by go_simp; try rfl) (fun W hE hF => ?_) ?_
  · obtain ⟨c, hcb, hB, hc⟩ := hF _ (List.Mem.head _) (by kernel_rfl)
    cases hcb
    exact minimum_two r.1 n b 2 W (by simp [World.cell?, hc]) (by simp [World.cell?, hc])
  simp only [Act.put, List.setIfInBounds_toArray, List.set_cons_succ, List.set_cons_zero]
  repeat (refine tree_det (by rfl) _ (by rfl) (fun W hW => by go_simp; (try simp (disch := omega) only [IntWalk.i64_in, Int.tdiv_eq_ediv_of_nonneg]); try rfl) ?_; simp only [Act.put, List.setIfInBounds_toArray, List.set_cons_succ, List.set_cons_zero])
  intro W hE hF
  obtain ⟨hc, hf⟩ := bcell hE.below
  have hzE := hE.size
  (try simp only [World.size_alloc] at hzE)
  go_wp2
  all_goals
    (try simp only [Exit.inBlock, Exit.then])
    refine bodyPost_ret (v := rv (min r.1 n, max r.2 n)) (by simp [results, Try.results105, go_sem, hc]; try omega) rfl ?_
    exact ⟨rfl, (by repeat (first | exact Below.refl _ _ | assumption | refine bgo ?_ hE.below | refine bgo ?_ (by assumption) | refine bgoAlloc ?_ _ | refine bgoDrew ?_ | refine bgoSet ?_ (by simp; try omega) _))⟩

theorem contains_any (l : List Int) (v : Value) (n : Int) (w : World) (hv : IntsAt w v l) : Calls Try.prog 112 #[v, iv n] w (PV (.bool (l.contains n)) w) := by
  have hidx : Calls Try.prog 129 #[v, iv n] w (fun e w' => w = w' ∧ ((l.contains n = true ∧ ∃ k : Nat, k < l.length ∧ e = .returned (iv k)) ∨ (l.contains n = false ∧ e = .returned (iv (-1))))) := by
    have hlen := hv.len
    obtain ⟨o, c, rfl⟩ := hv.open
    have HV := Lib.hid hv
    clear hv
    go_enter Try.func129, Try.ntmps129
    go_wp2
    go_loop [4, 5, 8] (fun _ _ i => ∃ k : Nat, k ≤ l.length ∧ i = .int .i64 k ∧ (∀ j (hj : j < l.length), j < k → l[j] ≠ n)) (fun _ _ i => l.length - (intOf i).toNat)
    case atStart => exact ⟨0, Nat.zero_le _, rfl, fun j _ hj => by omega⟩
    case round =>
      obtain ⟨k, hk, rfl, hno⟩ := hrel
      have HN := Lib.hid hno
      clear hno
      by_cases hlt : k < l.length
      · obtain ⟨b, off, rfl, hb, hc0⟩ := IntsAt.cell HV.out hlt
        by_cases he : l[k] = n
        · have he' : (n == l[k]) = true := by simp [he]
          have HE := Lib.hid he
          clear he
          go_wp2
          go_returns
          exact ⟨rfl, .inl ⟨by rw [← HE.out]; exact List.getElem_mem _, k, hlt, by simp⟩⟩
        · have he' : (n == l[k]) = false := by simp; omega
          have HE := Lib.hid he
          clear he
          go_wp2
          go_round
          case rel => exact ⟨k + 1, by omega, by go_num, fun j hj hjk => (by by_cases e : j = k; (subst e; exact HE.out); exact HN.out j hj (by omega))⟩
          case measure => simp [intOf]; omega
      · have hkl : k = l.length := by omega
        go_wp2
        go_returns
        refine ⟨rfl, .inr ⟨?_, by simp⟩⟩
        intro hm
        obtain ⟨j, hj, e⟩ := List.getElem_of_mem hm
        exact HN.out j hj (by omega) e
  have HI := Lib.hid hidx
  clear hidx
  go_enter Try.func112, Try.ntmps112
  go_wp2_with fail
  refine HI.out.mono ?_
  rintro e w' ⟨rfl, ⟨hc, k, hk, rfl⟩ | ⟨hc, rfl⟩⟩
  · have HC := Lib.hid hc
    clear hc
    go_wp2_with fail
    go_returns
    exact ⟨by rw [HC.out]; simp, Below.refl _ _⟩
  · have HC := Lib.hid hc
    clear hc
    go_wp2_with fail
    go_returns
    exact ⟨by rw [HC.out]; simp, Below.refl _ _⟩

theorem tPairs : SliceT Try.prog 37 36 (rv (0, 0)) 2 16 := ⟨Try.underlying37, by kernel_rfl, rfl, by omega⟩
theorem tInts : SliceT Try.prog 25 3 (iv 0) 1 8 := ⟨Try.underlying25, by kernel_rfl, rfl, by omega⟩
theorem tTriples : SliceT Try.prog 38 104 (xv (0, 0, 0)) 3 24 := ⟨Try.underlying38, by kernel_rfl, rfl, by omega⟩

theorem ranges_any (h : HeapD) (wv b c : Value) (w : World) (hw : PairsAt w wv h.wet) (hlen : h.wet.length ≤ 1000) :
    Calls Try.prog 100 #[hv h wv b c] w (PSl 2 (h.wet.length + 1) (pairCells (h.start :: h.wet)) w) := by
  obtain ⟨o, cc, rfl⟩ := hw.open
  have HW := Lib.hid hw
  clear hw
  go_enter Try.func100, Try.ntmps100
  go_wp2_with (at_builtin; refine wpList_append rfl _ _ tPairs rfl (w.heap.size + 1) (.slice (some ⟨w.heap.size + 1, 0, none⟩) 1 1) 1 [iv h.start.1, iv h.start.2] rfl ?_ (.slice o h.wet.length cc) h.wet.length (pairCells h.wet) rfl ?_ (one_pairs _) (by omega) (by omega) (by simp) ?_)
  · exact owns_block (heap_new1 _ _ _) rfl (Nat.le_refl _) (by decide)
  · exact (HW.out.alloc _).alloc _
  · intro v' w1 hown hgrow
    have HO := Lib.hid hown
    have HG := Lib.hid hgrow
    clear hown hgrow
    go_wp2
    go_returns
    refine ⟨v', by simp, ?_, ?_⟩
    · have := SlAt.of_owns HO.out
      rw [Nat.add_comm] at this
      exact this
    · exact Below.grown (bgoAlloc (bgoAlloc (Below.refl _ _) _) _) HG.out (by simp; omega) (fun k e => by cases e; show _ ≤ w.heap.size + 1; omega)

/-- 'turnings', one number: it is asked against the one before it, which it replaces. -/
theorem turn1_any (h : HeapD) (n p : Int) (lb hb : Nat) (w : World) (hl : w.heap[lb]? = some (.cells #[iv p] 3 (0, 0))) (hh : w.cell? ⟨hb, 0, none⟩ = some (iv h.last))
    (hp0 : -1 ≤ p) (hp1 : p ≤ 1000) :
    Calls Try.prog 109 #[iv n, .pointer (some ⟨lb, 0, none⟩), .pointer (some ⟨hb, 0, none⟩)] w
      (fun e w' => e = .returned (.bool (inB n (p + 1) h.last)) ∧ w'.heap[lb]? = some (.cells #[iv n] 3 (0, 0)) ∧ Ext [lb] w w') := by
  have hc := cell_of_block0 hl
  have hf : w.frozen? ⟨lb, 0, none⟩ = false := by simp [World.frozen?, hl]
  have hlt := World.block_lt_of_cell? w _ hc
  have hlt2 := World.block_lt_of_cell? w _ hh
  have HL := Lib.hid hl
  clear hl
  go_enter Try.func109, Try.ntmps109
  go_wp2_with (go_at_call 110; refine (within_any _ _ _ _).mono ?_; rintro e w' ⟨rfl, hb⟩; obtain ⟨hc, hf⟩ := bcell hb)
  go_returns
  refine ⟨by simp, ?_, ?_⟩
  · exact set_block ((hb.block lb hlt).trans HL.out) _
  · exact (Ext.of_below hb).trans (ext_set w' ⟨lb, 0, none⟩ _)

end Go.Proofs.Ytoibfafmnaooaaa

namespace Go.Proofs.Ytoibfafmnaooaaa
open Go.RowKit Go.RG Go.SL Go.Shelf Cou
set_option maxHeartbeats 400000
set_option maxRecDepth 10000

theorem turnings_any (h : HeapD) (a b c v : Value) (l : List Int) (w : World) (hv' : IntsAt w v l) (h0 : 0 ≤ h.last) (h9 : h.last ≤ 9) :
    Calls Try.prog 79 #[hv h a b c, v] w (PV (.bool (isTurns h.last l)) w) := by
  have HA := Lib.hid (allI l v 109 #[] #[.pointer (some ⟨w.heap.size + 1, 0, none⟩), .pointer (some ⟨w.heap.size, 0, none⟩)] (askT h.last (-1) l)
    (fun k W => W.heap[w.heap.size + 1]? = some (.cells #[iv (((-1 : Int) :: l).getD k 0)] 3 (0, 0)) ∧ W.cell? ⟨w.heap.size, 0, none⟩ = some (iv h.last) ∧ Below w.heap.size w W)
    ((w.alloc (.cells #[iv h.last, iv h.size, iv h.cool, iv h.die, iv h.burn, iv h.start.1, iv h.start.2, a, b, c] 40)).alloc (.cells #[iv (-1)] 3))
    (enters_of Try.func109 (by kernel_rfl) rfl) (fun k W hI => hv'.below hI.2.2 (Nat.le_refl _))
    (fun k W o hI => ⟨(Below.heap_alloc _ _ _ (Array.getElem?_eq_some_iff.1 hI.1).1).trans hI.1, by
        have := World.block_lt_of_cell? W _ hI.2.1
        rw [World.cell?_of_block (w := W) (Below.heap_alloc _ _ _ this)]; exact hI.2.1, bgoAlloc hI.2.2 _⟩)
    (fun k hk W hno hI => by
      have hp := askT_prev h.last h0 l k hno (by omega)
      refine (turn1_any h l[k] (((-1 : Int) :: l).getD k 0) (w.heap.size + 1) w.heap.size W hI.1 hI.2.1 hp.1 (by omega)).mono ?_
      rintro e W' ⟨rfl, h1, h2⟩
      refine ⟨?_, ⟨?_, ?_, ?_⟩, ?_⟩
      · have e : l.getD k 0 = l[k] := by simp [hk]
        simp only [askT, e]
      · rw [List.getD_cons_succ, show l.getD k 0 = l[k] from by simp [hk]]; exact h1
      · have hlt := World.block_lt_of_cell? W _ hI.2.1
        rw [h2.cell _ _ hlt (by simp)]; exact hI.2.1
      · exact hI.2.2.trans ⟨h2.os, h2.tape, h2.output, h2.size, fun i hi => h2.block i (by have := hI.2.2.size; omega) (by simp; omega)⟩
      · exact FromOn.of_ext h2 (by simp))
    ⟨heap_new1 _ _ _, by
      rw [World.cell?_of_block (w := w.alloc (.cells #[iv h.last, iv h.size, iv h.cool, iv h.die, iv h.burn, iv h.start.1, iv h.start.2, a, b, c] 40)) (Below.heap_alloc _ _ _ (by simp))]
      simp only [World.cell?, heap_new0]; rfl, bgoAlloc (bgoAlloc (Below.refl _ _) _) _⟩)
  clear hv'
  go_enter Try.func79, Try.ntmps79
  go_wp2_with fail
  refine HA.out.mono ?_
  rintro e W' hpost
  obtain ⟨rfl, k, hk, hI⟩ := hpost.all
  have HI := Lib.hid hI.2.2
  clear hI hpost
  go_wp2_with fail
  go_returns
  refine ⟨?_, HI.out⟩
  rw [isTurns, turnsFrom_all, ← all_of_any]
  simp

theorem allR_pure (l : List Rng) (v : Value) (fid : Nat) (fst caps : Array Value) (q : Rng → Bool) (w : World) (hv : PairsAt w v l) (eg : ∀ args w, (callFunc fid args).run Try.prog w = .ok (.enter fid args) w)
    (hcall : ∀ x ∈ l, ∀ W, Below w.heap.size w W → Calls Try.prog fid (fst.push (rv x) ++ caps) W (PV (.bool (q x)) W)) :
    Calls Try.prog 98 #[v, .func (.func fid) fst caps] w (PV (.bool (l.all q)) w) := by
  refine (allR l v fid fst caps (fun k => q (l.getD k (0, 0))) (fun _ W => Below w.heap.size w W) w eg (fun k W h => hv.below h (Nat.le_refl _)) (fun k W o h => bgoAlloc h o) (fun k hk W _ h => ?_) (Below.refl _ _)).mono ?_
  · refine (hcall l[k] (List.getElem_mem _) W h).mono ?_
    rintro e W' ⟨rfl, hb⟩
    exact ⟨by simp [hk], bgo h hb, FromOn.of_below hb⟩
  · intro e W' hpost
    obtain ⟨rfl, k, _, hI⟩ := hpost.all
    refine ⟨?_, hI⟩
    rw [all_of_any, range_all]

theorem allX_pure (l : List Rdg) (v : Value) (fid : Nat) (fst caps : Array Value) (q : Rdg → Bool) (w : World) (hv : TriplesAt w v l) (eg : ∀ args w, (callFunc fid args).run Try.prog w = .ok (.enter fid args) w)
    (hcall : ∀ x ∈ l, ∀ W, Below w.heap.size w W → Calls Try.prog fid (fst.push (xv x) ++ caps) W (PV (.bool (q x)) W)) :
    Calls Try.prog 93 #[v, .func (.func fid) fst caps] w (PV (.bool (l.all q)) w) := by
  refine (allX l v fid fst caps (fun k => q (l.getD k (0, 0, 0))) (fun _ W => Below w.heap.size w W) w eg (fun k W h => hv.below h (Nat.le_refl _)) (fun k W o h => bgoAlloc h o) (fun k hk W _ h => ?_) (Below.refl _ _)).mono ?_
  · refine (hcall l[k] (List.getElem_mem _) W h).mono ?_
    rintro e W' ⟨rfl, hb⟩
    exact ⟨by simp [hk], bgo h hb, FromOn.of_below hb⟩
  · intro e W' hpost
    obtain ⟨rfl, k, _, hI⟩ := hpost.all
    refine ⟨?_, hI⟩
    rw [all_of_any, range_all]

theorem all_wet (l : List Rng) (v : Value) (w : World) (hv : PairsAt w v l) : Calls Try.prog 98 #[v, .func (.func 99) #[] #[]] w (PV (.bool (l.all (okR · 20))) w) :=
  allR_pure l v _ #[] #[] (okR · 20) w hv (enters_of Try.func99 (by kernel_rfl) rfl) (fun x _ W _ => wet_any x W)

theorem all_readings (h : HeapD) (a b c : Value) (l : List Rdg) (v : Value) (w : World) (hv' : TriplesAt w v l) :
    Calls Try.prog 93 #[v, .func (.func 96) #[hv h a b c] #[]] w (PV (.bool (l.all (okRdg h.last))) w) :=
  allX_pure l v _ #[hv h a b c] #[] (okRdg h.last) w hv' (enters_of Try.func96 (by kernel_rfl) rfl) (fun x _ W _ => reading_any h a b c x W)


theorem check_bad1 (h : HeapD) (wv tv xv' : Value) (w : World) (hw : PairsAt w wv h.wet) (ht : IntsAt w tv h.turns) (hx : TriplesAt w xv' h.readings) (hl : h.last ≤ 9) (hr : (h.readings.length : Int) ≤ 5)
    (hn : numbersOk h = false)  : Calls Try.prog 56 #[hv h wv tv xv'] w (PV (iv 1) w) := by
  obtain ⟨ow, cw, rfl⟩ := hw.open
  obtain ⟨ot, ct, rfl⟩ := ht.open
  obtain ⟨ox, cx, rfl⟩ := hx.open
  have HW := Lib.hid hw
  have HT := Lib.hid ht
  have HX := Lib.hid hx
  clear hw ht hx
  have hl0 : numbersOk h = true → 0 ≤ h.last := fun e => by simp only [numbersOk, Bool.and_eq_true, decide_eq_true_eq] at e; exact e.1.1.1.1.1
  have HN := Lib.hid hn
  rw [hn] at hl0
  clear hn
  (try replace hl0 := hl0 rfl)
  
  go_enter Try.func56, Try.ntmps56
  go_wp2_with fail
  refine wp_region_rg 31 [] none [(1, Spec.val (.bool false))] (by kernel_rfl) (by kernel_rfl) ?_
  simp only [List.take_succ_cons, List.take_zero, List.drop_succ_cons, List.drop_zero]
  repeat (first | (refine tree_det (by rfl) _ (by rfl) (fun W hW => by go_simp; (try simp (disch := omega) only [IntWalk.i64_in, Int.tdiv_eq_ediv_of_nonneg]); try rfl) ?_; simp only [Act.put, List.setIfInBounds_toArray, List.set_cons_succ, List.set_cons_zero]) | (refine tree_skip (by rfl) (by rfl) ?_; simp only [Act.put, List.setIfInBounds_toArray, List.set_cons_succ, List.set_cons_zero]))
  refine tree_val _ (by rfl) (by rfl) 97 _ (fun W hW => by go_simp; try rfl) (fun W hE hF => by have := numbers_any h (.slice ow h.wet.length cw) (.slice ot h.turns.length ct) (.slice ox h.readings.length cx) W; rw [HN.out] at this; exact this) ?_
  simp only [Act.put, List.setIfInBounds_toArray, List.set_cons_succ, List.set_cons_zero]
  repeat (first | (refine tree_det (by rfl) _ (by rfl) (fun W hW => by go_simp; (try simp (disch := omega) only [IntWalk.i64_in, Int.tdiv_eq_ediv_of_nonneg]); try rfl) ?_; simp only [Act.put, List.setIfInBounds_toArray, List.set_cons_succ, List.set_cons_zero]) | (refine tree_skip (by rfl) (by rfl) ?_; simp only [Act.put, List.setIfInBounds_toArray, List.set_cons_succ, List.set_cons_zero]))
  
  intro W hE hF
  obtain ⟨hc, hf⟩ := bcell hE.below
  have hzE := hE.size
  (try simp only [World.size_alloc] at hzE)
  go_wp2
  go_returns
  exact ⟨by simp, (by repeat (first | exact Below.refl _ _ | assumption | refine bgo ?_ hE.below | refine bgo ?_ (by assumption) | refine bgoAlloc ?_ _ | refine bgoDrew ?_ | refine bgoSet ?_ (by simp; try omega) _))⟩

theorem check_bad2 (h : HeapD) (wv tv xv' : Value) (w : World) (hw : PairsAt w wv h.wet) (ht : IntsAt w tv h.turns) (hx : TriplesAt w xv' h.readings) (hl : h.last ≤ 9) (hr : (h.readings.length : Int) ≤ 5)
    (hn : numbersOk h = true) (h2 : ((h.wet.length : Int) == h.last + 1) = false) : Calls Try.prog 56 #[hv h wv tv xv'] w (PV (iv 1) w) := by
  obtain ⟨ow, cw, rfl⟩ := hw.open
  obtain ⟨ot, ct, rfl⟩ := ht.open
  obtain ⟨ox, cx, rfl⟩ := hx.open
  have HW := Lib.hid hw
  have HT := Lib.hid ht
  have HX := Lib.hid hx
  clear hw ht hx
  have hl0 : numbersOk h = true → 0 ≤ h.last := fun e => by simp only [numbersOk, Bool.and_eq_true, decide_eq_true_eq] at e; exact e.1.1.1.1.1
  have HN := Lib.hid hn
  rw [hn] at hl0
  clear hn
  (try replace hl0 := hl0 rfl)
  have h2' : ((h.wet.length : Int) != h.last + 1) = true := by simp only [bne, h2]; rfl
  go_enter Try.func56, Try.ntmps56
  go_wp2_with fail
  refine wp_region_rg 31 [] none [(1, Spec.val (.bool true)), (8, Spec.val (iv (h.last + 1)))] (by kernel_rfl) (by kernel_rfl) ?_
  simp only [List.take_succ_cons, List.take_zero, List.drop_succ_cons, List.drop_zero]
  repeat (first | (refine tree_det (by rfl) _ (by rfl) (fun W hW => by go_simp; (try simp (disch := omega) only [IntWalk.i64_in, Int.tdiv_eq_ediv_of_nonneg]); try rfl) ?_; simp only [Act.put, List.setIfInBounds_toArray, List.set_cons_succ, List.set_cons_zero]) | (refine tree_skip (by rfl) (by rfl) ?_; simp only [Act.put, List.setIfInBounds_toArray, List.set_cons_succ, List.set_cons_zero]))
  refine tree_val _ (by rfl) (by rfl) 97 _ (fun W hW => by go_simp; try rfl) (fun W hE hF => by have := numbers_any h (.slice ow h.wet.length cw) (.slice ot h.turns.length ct) (.slice ox h.readings.length cx) W; rw [HN.out] at this; exact this) ?_
  simp only [Act.put, List.setIfInBounds_toArray, List.set_cons_succ, List.set_cons_zero]
  repeat (first | (refine tree_det (by rfl) _ (by rfl) (fun W hW => by go_simp; (try simp (disch := omega) only [IntWalk.i64_in, Int.tdiv_eq_ediv_of_nonneg]); try rfl) ?_; simp only [Act.put, List.setIfInBounds_toArray, List.set_cons_succ, List.set_cons_zero]) | (refine tree_skip (by rfl) (by rfl) ?_; simp only [Act.put, List.setIfInBounds_toArray, List.set_cons_succ, List.set_cons_zero]))
  refine tree_val _ (by rfl) (by rfl) 82 _ (fun W hW => by go_simp; try rfl) (fun W hE hF => by exact hours_any h _ _ _ W hl0 hl) ?_
  simp only [Act.put, List.setIfInBounds_toArray, List.set_cons_succ, List.set_cons_zero]
  repeat (first | (refine tree_det (by rfl) _ (by rfl) (fun W hW => by go_simp; (try simp (disch := omega) only [IntWalk.i64_in, Int.tdiv_eq_ediv_of_nonneg]); try rfl) ?_; simp only [Act.put, List.setIfInBounds_toArray, List.set_cons_succ, List.set_cons_zero]) | (refine tree_skip (by rfl) (by rfl) ?_; simp only [Act.put, List.setIfInBounds_toArray, List.set_cons_succ, List.set_cons_zero]))
  intro W hE hF
  obtain ⟨hc, hf⟩ := bcell hE.below
  have hzE := hE.size
  (try simp only [World.size_alloc] at hzE)
  go_wp2
  go_returns
  exact ⟨by simp, (by repeat (first | exact Below.refl _ _ | assumption | refine bgo ?_ hE.below | refine bgo ?_ (by assumption) | refine bgoAlloc ?_ _ | refine bgoDrew ?_ | refine bgoSet ?_ (by simp; try omega) _))⟩

theorem check_bad3 (h : HeapD) (wv tv xv' : Value) (w : World) (hw : PairsAt w wv h.wet) (ht : IntsAt w tv h.turns) (hx : TriplesAt w xv' h.readings) (hl : h.last ≤ 9) (hr : (h.readings.length : Int) ≤ 5)
    (hn : numbersOk h = true) (h2 : ((h.wet.length : Int) == h.last + 1) = true) (h3 : isTurns h.last h.turns = false) : Calls Try.prog 56 #[hv h wv tv xv'] w (PV (iv 1) w) := by
  obtain ⟨ow, cw, rfl⟩ := hw.open
  obtain ⟨ot, ct, rfl⟩ := ht.open
  obtain ⟨ox, cx, rfl⟩ := hx.open
  have HW := Lib.hid hw
  have HT := Lib.hid ht
  have HX := Lib.hid hx
  clear hw ht hx
  have hl0 : numbersOk h = true → 0 ≤ h.last := fun e => by simp only [numbersOk, Bool.and_eq_true, decide_eq_true_eq] at e; exact e.1.1.1.1.1
  have HN := Lib.hid hn
  rw [hn] at hl0
  clear hn
  (try replace hl0 := hl0 rfl)
  have h2' : ((h.wet.length : Int) != h.last + 1) = false := by simp only [bne, h2]; rfl
  have H3 := Lib.hid h3
  clear h3
  go_enter Try.func56, Try.ntmps56
  go_wp2_with fail
  refine wp_region_rg 31 [] none [(1, Spec.val (.bool true)), (8, Spec.val (iv (h.last + 1))), (15, Spec.val (.bool false))] (by kernel_rfl) (by kernel_rfl) ?_
  simp only [List.take_succ_cons, List.take_zero, List.drop_succ_cons, List.drop_zero]
  repeat (first | (refine tree_det (by rfl) _ (by rfl) (fun W hW => by go_simp; (try simp (disch := omega) only [IntWalk.i64_in, Int.tdiv_eq_ediv_of_nonneg]); try rfl) ?_; simp only [Act.put, List.setIfInBounds_toArray, List.set_cons_succ, List.set_cons_zero]) | (refine tree_skip (by rfl) (by rfl) ?_; simp only [Act.put, List.setIfInBounds_toArray, List.set_cons_succ, List.set_cons_zero]))
  refine tree_val _ (by rfl) (by rfl) 97 _ (fun W hW => by go_simp; try rfl) (fun W hE hF => by have := numbers_any h (.slice ow h.wet.length cw) (.slice ot h.turns.length ct) (.slice ox h.readings.length cx) W; rw [HN.out] at this; exact this) ?_
  simp only [Act.put, List.setIfInBounds_toArray, List.set_cons_succ, List.set_cons_zero]
  repeat (first | (refine tree_det (by rfl) _ (by rfl) (fun W hW => by go_simp; (try simp (disch := omega) only [IntWalk.i64_in, Int.tdiv_eq_ediv_of_nonneg]); try rfl) ?_; simp only [Act.put, List.setIfInBounds_toArray, List.set_cons_succ, List.set_cons_zero]) | (refine tree_skip (by rfl) (by rfl) ?_; simp only [Act.put, List.setIfInBounds_toArray, List.set_cons_succ, List.set_cons_zero]))
  refine tree_val _ (by rfl) (by rfl) 82 _ (fun W hW => by go_simp; try rfl) (fun W hE hF => by exact hours_any h _ _ _ W hl0 hl) ?_
  simp only [Act.put, List.setIfInBounds_toArray, List.set_cons_succ, List.set_cons_zero]
  repeat (first | (refine tree_det (by rfl) _ (by rfl) (fun W hW => by go_simp; (try simp (disch := omega) only [IntWalk.i64_in, Int.tdiv_eq_ediv_of_nonneg]); try rfl) ?_; simp only [Act.put, List.setIfInBounds_toArray, List.set_cons_succ, List.set_cons_zero]) | (refine tree_skip (by rfl) (by rfl) ?_; simp only [Act.put, List.setIfInBounds_toArray, List.set_cons_succ, List.set_cons_zero]))
  refine tree_val _ (by rfl) (by rfl) 79 _ (fun W hW => by go_simp; try rfl) (fun W hE hF => by have := turnings_any h (.slice ow h.wet.length cw) (.slice ot h.turns.length ct) (.slice ox h.readings.length cx) (.slice ot h.turns.length ct) h.turns W ((HT.out.alloc _).ext hE (by simp)) hl0 hl; rw [H3.out] at this; exact this) ?_
  simp only [Act.put, List.setIfInBounds_toArray, List.set_cons_succ, List.set_cons_zero]
  repeat (first | (refine tree_det (by rfl) _ (by rfl) (fun W hW => by go_simp; (try simp (disch := omega) only [IntWalk.i64_in, Int.tdiv_eq_ediv_of_nonneg]); try rfl) ?_; simp only [Act.put, List.setIfInBounds_toArray, List.set_cons_succ, List.set_cons_zero]) | (refine tree_skip (by rfl) (by rfl) ?_; simp only [Act.put, List.setIfInBounds_toArray, List.set_cons_succ, List.set_cons_zero]))
  intro W hE hF
  obtain ⟨hc, hf⟩ := bcell hE.below
  have hzE := hE.size
  (try simp only [World.size_alloc] at hzE)
  go_wp2
  go_returns
  exact ⟨by simp, (by repeat (first | exact Below.refl _ _ | assumption | refine bgo ?_ hE.below | refine bgo ?_ (by assumption) | refine bgoAlloc ?_ _ | refine bgoDrew ?_ | refine bgoSet ?_ (by simp; try omega) _))⟩

theorem check_bad4 (h : HeapD) (wv tv xv' : Value) (w : World) (hw : PairsAt w wv h.wet) (ht : IntsAt w tv h.turns) (hx : TriplesAt w xv' h.readings) (hl : h.last ≤ 9) (hr : (h.readings.length : Int) ≤ 5)
    (hn : numbersOk h = true) (h2 : ((h.wet.length : Int) == h.last + 1) = true) (h3 : isTurns h.last h.turns = true) (h4 : h.wet.all (okR · 20) = false) : Calls Try.prog 56 #[hv h wv tv xv'] w (PV (iv 1) w) := by
  obtain ⟨ow, cw, rfl⟩ := hw.open
  obtain ⟨ot, ct, rfl⟩ := ht.open
  obtain ⟨ox, cx, rfl⟩ := hx.open
  have HW := Lib.hid hw
  have HT := Lib.hid ht
  have HX := Lib.hid hx
  clear hw ht hx
  have hl0 : numbersOk h = true → 0 ≤ h.last := fun e => by simp only [numbersOk, Bool.and_eq_true, decide_eq_true_eq] at e; exact e.1.1.1.1.1
  have HN := Lib.hid hn
  rw [hn] at hl0
  clear hn
  (try replace hl0 := hl0 rfl)
  have h2' : ((h.wet.length : Int) != h.last + 1) = false := by simp only [bne, h2]; rfl
  have H3 := Lib.hid h3
  have H4 := Lib.hid h4
  clear h3 h4
  go_enter Try.func56, Try.ntmps56
  go_wp2_with fail
  refine wp_region_rg 31 [] none [(1, Spec.val (.bool true)), (8, Spec.val (iv (h.last + 1))), (15, Spec.val (.bool true)), (21, Spec.val (.bool false))] (by kernel_rfl) (by kernel_rfl) ?_
  simp only [List.take_succ_cons, List.take_zero, List.drop_succ_cons, List.drop_zero]
  repeat (first | (refine tree_det (by rfl) _ (by rfl) (fun W hW => by go_simp; (try simp (disch := omega) only [IntWalk.i64_in, Int.tdiv_eq_ediv_of_nonneg]); try rfl) ?_; simp only [Act.put, List.setIfInBounds_toArray, List.set_cons_succ, List.set_cons_zero]) | (refine tree_skip (by rfl) (by rfl) ?_; simp only [Act.put, List.setIfInBounds_toArray, List.set_cons_succ, List.set_cons_zero]))
  refine tree_val _ (by rfl) (by rfl) 97 _ (fun W hW => by go_simp; try rfl) (fun W hE hF => by have := numbers_any h (.slice ow h.wet.length cw) (.slice ot h.turns.length ct) (.slice ox h.readings.length cx) W; rw [HN.out] at this; exact this) ?_
  simp only [Act.put, List.setIfInBounds_toArray, List.set_cons_succ, List.set_cons_zero]
  repeat (first | (refine tree_det (by rfl) _ (by rfl) (fun W hW => by go_simp; (try simp (disch := omega) only [IntWalk.i64_in, Int.tdiv_eq_ediv_of_nonneg]); try rfl) ?_; simp only [Act.put, List.setIfInBounds_toArray, List.set_cons_succ, List.set_cons_zero]) | (refine tree_skip (by rfl) (by rfl) ?_; simp only [Act.put, List.setIfInBounds_toArray, List.set_cons_succ, List.set_cons_zero]))
  refine tree_val _ (by rfl) (by rfl) 82 _ (fun W hW => by go_simp; try rfl) (fun W hE hF => by exact hours_any h _ _ _ W hl0 hl) ?_
  simp only [Act.put, List.setIfInBounds_toArray, List.set_cons_succ, List.set_cons_zero]
  repeat (first | (refine tree_det (by rfl) _ (by rfl) (fun W hW => by go_simp; (try simp (disch := omega) only [IntWalk.i64_in, Int.tdiv_eq_ediv_of_nonneg]); try rfl) ?_; simp only [Act.put, List.setIfInBounds_toArray, List.set_cons_succ, List.set_cons_zero]) | (refine tree_skip (by rfl) (by rfl) ?_; simp only [Act.put, List.setIfInBounds_toArray, List.set_cons_succ, List.set_cons_zero]))
  refine tree_val _ (by rfl) (by rfl) 79 _ (fun W hW => by go_simp; try rfl) (fun W hE hF => by have := turnings_any h (.slice ow h.wet.length cw) (.slice ot h.turns.length ct) (.slice ox h.readings.length cx) (.slice ot h.turns.length ct) h.turns W ((HT.out.alloc _).ext hE (by simp)) hl0 hl; rw [H3.out] at this; exact this) ?_
  simp only [Act.put, List.setIfInBounds_toArray, List.set_cons_succ, List.set_cons_zero]
  repeat (first | (refine tree_det (by rfl) _ (by rfl) (fun W hW => by go_simp; (try simp (disch := omega) only [IntWalk.i64_in, Int.tdiv_eq_ediv_of_nonneg]); try rfl) ?_; simp only [Act.put, List.setIfInBounds_toArray, List.set_cons_succ, List.set_cons_zero]) | (refine tree_skip (by rfl) (by rfl) ?_; simp only [Act.put, List.setIfInBounds_toArray, List.set_cons_succ, List.set_cons_zero]))
  refine tree_val _ (by rfl) (by rfl) 98 _ (fun W hW => by go_simp; try rfl) (fun W hE hF => by have := all_wet h.wet (.slice ow h.wet.length cw) W ((HW.out.alloc _).ext hE (by simp)); rw [H4.out] at this; exact this) ?_
  simp only [Act.put, List.setIfInBounds_toArray, List.set_cons_succ, List.set_cons_zero]
  repeat (first | (refine tree_det (by rfl) _ (by rfl) (fun W hW => by go_simp; (try simp (disch := omega) only [IntWalk.i64_in, Int.tdiv_eq_ediv_of_nonneg]); try rfl) ?_; simp only [Act.put, List.setIfInBounds_toArray, List.set_cons_succ, List.set_cons_zero]) | (refine tree_skip (by rfl) (by rfl) ?_; simp only [Act.put, List.setIfInBounds_toArray, List.set_cons_succ, List.set_cons_zero]))
  intro W hE hF
  obtain ⟨hc, hf⟩ := bcell hE.below
  have hzE := hE.size
  (try simp only [World.size_alloc] at hzE)
  go_wp2
  go_returns
  exact ⟨by simp, (by repeat (first | exact Below.refl _ _ | assumption | refine bgo ?_ hE.below | refine bgo ?_ (by assumption) | refine bgoAlloc ?_ _ | refine bgoDrew ?_ | refine bgoSet ?_ (by simp; try omega) _))⟩

theorem check_bad5 (h : HeapD) (wv tv xv' : Value) (w : World) (hw : PairsAt w wv h.wet) (ht : IntsAt w tv h.turns) (hx : TriplesAt w xv' h.readings) (hl : h.last ≤ 9) (hr : (h.readings.length : Int) ≤ 5)
    (hn : numbersOk h = true) (h2 : ((h.wet.length : Int) == h.last + 1) = true) (h3 : isTurns h.last h.turns = true) (h4 : h.wet.all (okR · 20) = true) (h5 : h.readings.all (okRdg h.last) = false) : Calls Try.prog 56 #[hv h wv tv xv'] w (PV (iv 1) w) := by
  obtain ⟨ow, cw, rfl⟩ := hw.open
  obtain ⟨ot, ct, rfl⟩ := ht.open
  obtain ⟨ox, cx, rfl⟩ := hx.open
  have HW := Lib.hid hw
  have HT := Lib.hid ht
  have HX := Lib.hid hx
  clear hw ht hx
  have hl0 : numbersOk h = true → 0 ≤ h.last := fun e => by simp only [numbersOk, Bool.and_eq_true, decide_eq_true_eq] at e; exact e.1.1.1.1.1
  have HN := Lib.hid hn
  rw [hn] at hl0
  clear hn
  (try replace hl0 := hl0 rfl)
  have h2' : ((h.wet.length : Int) != h.last + 1) = false := by simp only [bne, h2]; rfl
  have H3 := Lib.hid h3
  have H4 := Lib.hid h4
  have H5 := Lib.hid h5
  clear h3 h4 h5
  go_enter Try.func56, Try.ntmps56
  go_wp2_with fail
  refine wp_region_rg 31 [] none [(1, Spec.val (.bool true)), (8, Spec.val (iv (h.last + 1))), (15, Spec.val (.bool true)), (21, Spec.val (.bool true)), (28, Spec.val (.bool false))] (by kernel_rfl) (by kernel_rfl) ?_
  simp only [List.take_succ_cons, List.take_zero, List.drop_succ_cons, List.drop_zero]
  repeat (first | (refine tree_det (by rfl) _ (by rfl) (fun W hW => by go_simp; (try simp (disch := omega) only [IntWalk.i64_in, Int.tdiv_eq_ediv_of_nonneg]); try rfl) ?_; simp only [Act.put, List.setIfInBounds_toArray, List.set_cons_succ, List.set_cons_zero]) | (refine tree_skip (by rfl) (by rfl) ?_; simp only [Act.put, List.setIfInBounds_toArray, List.set_cons_succ, List.set_cons_zero]))
  refine tree_val _ (by rfl) (by rfl) 97 _ (fun W hW => by go_simp; try rfl) (fun W hE hF => by have := numbers_any h (.slice ow h.wet.length cw) (.slice ot h.turns.length ct) (.slice ox h.readings.length cx) W; rw [HN.out] at this; exact this) ?_
  simp only [Act.put, List.setIfInBounds_toArray, List.set_cons_succ, List.set_cons_zero]
  repeat (first | (refine tree_det (by rfl) _ (by rfl) (fun W hW => by go_simp; (try simp (disch := omega) only [IntWalk.i64_in, Int.tdiv_eq_ediv_of_nonneg]); try rfl) ?_; simp only [Act.put, List.setIfInBounds_toArray, List.set_cons_succ, List.set_cons_zero]) | (refine tree_skip (by rfl) (by rfl) ?_; simp only [Act.put, List.setIfInBounds_toArray, List.set_cons_succ, List.set_cons_zero]))
  refine tree_val _ (by rfl) (by rfl) 82 _ (fun W hW => by go_simp; try rfl) (fun W hE hF => by exact hours_any h _ _ _ W hl0 hl) ?_
  simp only [Act.put, List.setIfInBounds_toArray, List.set_cons_succ, List.set_cons_zero]
  repeat (first | (refine tree_det (by rfl) _ (by rfl) (fun W hW => by go_simp; (try simp (disch := omega) only [IntWalk.i64_in, Int.tdiv_eq_ediv_of_nonneg]); try rfl) ?_; simp only [Act.put, List.setIfInBounds_toArray, List.set_cons_succ, List.set_cons_zero]) | (refine tree_skip (by rfl) (by rfl) ?_; simp only [Act.put, List.setIfInBounds_toArray, List.set_cons_succ, List.set_cons_zero]))
  refine tree_val _ (by rfl) (by rfl) 79 _ (fun W hW => by go_simp; try rfl) (fun W hE hF => by have := turnings_any h (.slice ow h.wet.length cw) (.slice ot h.turns.length ct) (.slice ox h.readings.length cx) (.slice ot h.turns.length ct) h.turns W ((HT.out.alloc _).ext hE (by simp)) hl0 hl; rw [H3.out] at this; exact this) ?_
  simp only [Act.put, List.setIfInBounds_toArray, List.set_cons_succ, List.set_cons_zero]
  repeat (first | (refine tree_det (by rfl) _ (by rfl) (fun W hW => by go_simp; (try simp (disch := omega) only [IntWalk.i64_in, Int.tdiv_eq_ediv_of_nonneg]); try rfl) ?_; simp only [Act.put, List.setIfInBounds_toArray, List.set_cons_succ, List.set_cons_zero]) | (refine tree_skip (by rfl) (by rfl) ?_; simp only [Act.put, List.setIfInBounds_toArray, List.set_cons_succ, List.set_cons_zero]))
  refine tree_val _ (by rfl) (by rfl) 98 _ (fun W hW => by go_simp; try rfl) (fun W hE hF => by have := all_wet h.wet (.slice ow h.wet.length cw) W ((HW.out.alloc _).ext hE (by simp)); rw [H4.out] at this; exact this) ?_
  simp only [Act.put, List.setIfInBounds_toArray, List.set_cons_succ, List.set_cons_zero]
  repeat (first | (refine tree_det (by rfl) _ (by rfl) (fun W hW => by go_simp; (try simp (disch := omega) only [IntWalk.i64_in, Int.tdiv_eq_ediv_of_nonneg]); try rfl) ?_; simp only [Act.put, List.setIfInBounds_toArray, List.set_cons_succ, List.set_cons_zero]) | (refine tree_skip (by rfl) (by rfl) ?_; simp only [Act.put, List.setIfInBounds_toArray, List.set_cons_succ, List.set_cons_zero]))
  refine tree_val _ (by rfl) (by rfl) 93 _ (fun W hW => by go_simp; try rfl) (fun W hE hF => by have := all_readings h (.slice ow h.wet.length cw) (.slice ot h.turns.length ct) (.slice ox h.readings.length cx) h.readings (.slice ox h.readings.length cx) W ((HX.out.alloc _).ext hE (by simp)); rw [H5.out] at this; exact this) ?_
  simp only [Act.put, List.setIfInBounds_toArray, List.set_cons_succ, List.set_cons_zero]
  repeat (first | (refine tree_det (by rfl) _ (by rfl) (fun W hW => by go_simp; (try simp (disch := omega) only [IntWalk.i64_in, Int.tdiv_eq_ediv_of_nonneg]); try rfl) ?_; simp only [Act.put, List.setIfInBounds_toArray, List.set_cons_succ, List.set_cons_zero]) | (refine tree_skip (by rfl) (by rfl) ?_; simp only [Act.put, List.setIfInBounds_toArray, List.set_cons_succ, List.set_cons_zero]))
  intro W hE hF
  obtain ⟨hc, hf⟩ := bcell hE.below
  have hzE := hE.size
  (try simp only [World.size_alloc] at hzE)
  go_wp2
  go_returns
  exact ⟨by simp, (by repeat (first | exact Below.refl _ _ | assumption | refine bgo ?_ hE.below | refine bgo ?_ (by assumption) | refine bgoAlloc ?_ _ | refine bgoDrew ?_ | refine bgoSet ?_ (by simp; try omega) _))⟩

end Go.Proofs.Ytoibfafmnaooaaa

namespace Go.Proofs.Ytoibfafmnaooaaa
open Go.RowKit Go.RG Go.SL Go.Shelf Cou
set_option maxHeartbeats 400000
set_option maxRecDepth 10000

theorem check_limit (h : HeapD) (wv tv xv' : Value) (w : World) (hx : TriplesAt w xv' h.readings) (hl : 9 < h.last ∨ 5 < (h.readings.length : Int)) :
    Calls Try.prog 56 #[hv h wv tv xv'] w (PV (iv 3) w) := by
  obtain ⟨ox, cx, rfl⟩ := hx.open
  clear hx
  by_cases h9 : 9 < h.last
  all_goals
    go_enter Try.func56, Try.ntmps56
    go_wp2
    go_returns
    exact ⟨by simp, (by repeat (first | exact Below.refl _ _ | assumption | refine bgo ?_ (by assumption) | refine bgoAlloc ?_ _ | refine bgoDrew ?_ | refine bgoSet ?_ (by simp; omega) _))⟩

theorem check_good (h : HeapD) (wv tv xv' : Value) (w : World) (hw : PairsAt w wv h.wet) (ht : IntsAt w tv h.turns) (hx : TriplesAt w xv' h.readings) (hl : h.last ≤ 9) (hr : (h.readings.length : Int) ≤ 5)
    (hn : numbersOk h = true) (h2 : ((h.wet.length : Int) == h.last + 1) = true) (h3 : isTurns h.last h.turns = true) (h4 : h.wet.all (okR · 20) = true) (h5 : h.readings.all (okRdg h.last) = true)
    (res : Int) (hres : Hid (res = if 2000 < prod (h.start :: h.wet) then 3 else 0)) :
    Calls Try.prog 56 #[hv h wv tv xv'] w (PV (iv res) w) := by
  have hlen : h.wet.length ≤ 10 := by have := of_decide_eq_true (p := (h.wet.length : Int) = h.last + 1) (by simpa using h2); omega
  have hok : ∀ r ∈ h.start :: h.wet, 0 ≤ r.1 ∧ r.1 ≤ r.2 ∧ r.2 ≤ 500 ∧ 1 ≤ sizeR r ∧ sizeR r ≤ 501 := by
    intro r hr
    rcases List.mem_cons.1 hr with rfl | hr
    · have : okR h.start 500 = true := by simp only [numbersOk, Bool.and_eq_true] at hn; exact hn.2
      exact okR_size this
    · have := okR_size (List.all_eq_true.1 h4 r hr)
      omega
  have HOK := Lib.hid hok
  clear hok
  obtain ⟨ow, cw, rfl⟩ := hw.open
  obtain ⟨ot, ct, rfl⟩ := ht.open
  obtain ⟨ox, cx, rfl⟩ := hx.open
  have HW := Lib.hid hw
  have HT := Lib.hid ht
  have HX := Lib.hid hx
  clear hw ht hx
  have hl0 : numbersOk h = true → 0 ≤ h.last := fun e => by simp only [numbersOk, Bool.and_eq_true, decide_eq_true_eq] at e; exact e.1.1.1.1.1
  have HN := Lib.hid hn
  rw [hn] at hl0
  clear hn
  (try replace hl0 := hl0 rfl)
  have h2' : ((h.wet.length : Int) != h.last + 1) = false := by simp only [bne, h2]; rfl
  have H3 := Lib.hid h3
  have H4 := Lib.hid h4
  have H5 := Lib.hid h5
  clear h3 h4 h5
  go_enter Try.func56, Try.ntmps56
  go_wp2_with fail
  refine wp_region_rg 31 [] none [(1, Spec.val (.bool true)), (8, Spec.val (iv (h.last + 1))), (15, Spec.val (.bool true)), (21, Spec.val (.bool true)), (28, Spec.val (.bool true))] (by kernel_rfl) (by kernel_rfl) ?_
  simp only [List.take_succ_cons, List.take_zero, List.drop_succ_cons, List.drop_zero]
  repeat (first | (refine tree_det (by rfl) _ (by rfl) (fun W hW => by go_simp; (try simp (disch := omega) only [IntWalk.i64_in, Int.tdiv_eq_ediv_of_nonneg]); try rfl) ?_; simp only [Act.put, List.setIfInBounds_toArray, List.set_cons_succ, List.set_cons_zero]) | (refine tree_skip (by rfl) (by rfl) ?_; simp only [Act.put, List.setIfInBounds_toArray, List.set_cons_succ, List.set_cons_zero]))
  refine tree_val _ (by rfl) (by rfl) 97 _ (fun W hW => by go_simp; try rfl) (fun W hE hF => by have := numbers_any h (.slice ow h.wet.length cw) (.slice ot h.turns.length ct) (.slice ox h.readings.length cx) W; rw [HN.out] at this; exact this) ?_
  simp only [Act.put, List.setIfInBounds_toArray, List.set_cons_succ, List.set_cons_zero]
  repeat (first | (refine tree_det (by rfl) _ (by rfl) (fun W hW => by go_simp; (try simp (disch := omega) only [IntWalk.i64_in, Int.tdiv_eq_ediv_of_nonneg]); try rfl) ?_; simp only [Act.put, List.setIfInBounds_toArray, List.set_cons_succ, List.set_cons_zero]) | (refine tree_skip (by rfl) (by rfl) ?_; simp only [Act.put, List.setIfInBounds_toArray, List.set_cons_succ, List.set_cons_zero]))
  refine tree_val _ (by rfl) (by rfl) 82 _ (fun W hW => by go_simp; try rfl) (fun W hE hF => by exact hours_any h _ _ _ W hl0 hl) ?_
  simp only [Act.put, List.setIfInBounds_toArray, List.set_cons_succ, List.set_cons_zero]
  repeat (first | (refine tree_det (by rfl) _ (by rfl) (fun W hW => by go_simp; (try simp (disch := omega) only [IntWalk.i64_in, Int.tdiv_eq_ediv_of_nonneg]); try rfl) ?_; simp only [Act.put, List.setIfInBounds_toArray, List.set_cons_succ, List.set_cons_zero]) | (refine tree_skip (by rfl) (by rfl) ?_; simp only [Act.put, List.setIfInBounds_toArray, List.set_cons_succ, List.set_cons_zero]))
  refine tree_val _ (by rfl) (by rfl) 79 _ (fun W hW => by go_simp; try rfl) (fun W hE hF => by have := turnings_any h (.slice ow h.wet.length cw) (.slice ot h.turns.length ct) (.slice ox h.readings.length cx) (.slice ot h.turns.length ct) h.turns W ((HT.out.alloc _).ext hE (by simp)) hl0 hl; rw [H3.out] at this; exact this) ?_
  simp only [Act.put, List.setIfInBounds_toArray, List.set_cons_succ, List.set_cons_zero]
  repeat (first | (refine tree_det (by rfl) _ (by rfl) (fun W hW => by go_simp; (try simp (disch := omega) only [IntWalk.i64_in, Int.tdiv_eq_ediv_of_nonneg]); try rfl) ?_; simp only [Act.put, List.setIfInBounds_toArray, List.set_cons_succ, List.set_cons_zero]) | (refine tree_skip (by rfl) (by rfl) ?_; simp only [Act.put, List.setIfInBounds_toArray, List.set_cons_succ, List.set_cons_zero]))
  refine tree_val _ (by rfl) (by rfl) 98 _ (fun W hW => by go_simp; try rfl) (fun W hE hF => by have := all_wet h.wet (.slice ow h.wet.length cw) W ((HW.out.alloc _).ext hE (by simp)); rw [H4.out] at this; exact this) ?_
  simp only [Act.put, List.setIfInBounds_toArray, List.set_cons_succ, List.set_cons_zero]
  repeat (first | (refine tree_det (by rfl) _ (by rfl) (fun W hW => by go_simp; (try simp (disch := omega) only [IntWalk.i64_in, Int.tdiv_eq_ediv_of_nonneg]); try rfl) ?_; simp only [Act.put, List.setIfInBounds_toArray, List.set_cons_succ, List.set_cons_zero]) | (refine tree_skip (by rfl) (by rfl) ?_; simp only [Act.put, List.setIfInBounds_toArray, List.set_cons_succ, List.set_cons_zero]))
  refine tree_val _ (by rfl) (by rfl) 93 _ (fun W hW => by go_simp; try rfl) (fun W hE hF => by have := all_readings h (.slice ow h.wet.length cw) (.slice ot h.turns.length ct) (.slice ox h.readings.length cx) h.readings (.slice ox h.readings.length cx) W ((HX.out.alloc _).ext hE (by simp)); rw [H5.out] at this; exact this) ?_
  simp only [Act.put, List.setIfInBounds_toArray, List.set_cons_succ, List.set_cons_zero]
  repeat (first | (refine tree_det (by rfl) _ (by rfl) (fun W hW => by go_simp; (try simp (disch := omega) only [IntWalk.i64_in, Int.tdiv_eq_ediv_of_nonneg]); try rfl) ?_; simp only [Act.put, List.setIfInBounds_toArray, List.set_cons_succ, List.set_cons_zero]) | (refine tree_skip (by rfl) (by rfl) ?_; simp only [Act.put, List.setIfInBounds_toArray, List.set_cons_succ, List.set_cons_zero]))
  intro W hE hF
  obtain ⟨hc, hf⟩ := bcell hE.below
  have hzE := hE.size
  (try simp only [World.size_alloc] at hzE)
  go_wp2_with fail
  have hB0 : Below w.heap.size w W := (by repeat (first | exact Below.refl _ _ | assumption | refine bgo ?_ hE.below | refine bgo ?_ (by assumption) | refine bgoAlloc ?_ _ | refine bgoDrew ?_ | refine bgoSet ?_ (by simp; try omega) _))
  refine (ranges_any h _ _ _ W (HW.out.below hB0 (Nat.le_refl _)) (by omega)).mono ?_
  rintro e w1 ⟨v, rfl, hv1, hb1⟩
  have hB1 : Below w.heap.size w w1 := bgo hB0 hb1
  clear hc hf hzE hE hF hb1 hB0
  obtain ⟨ov, cv, rfl⟩ := hv1.open
  have HV := Lib.hid hv1
  clear hv1
  go_wp2_with fail
  have hL : (h.start :: h.wet).length = h.wet.length + 1 := rfl
  have HL := Lib.hid hL
  clear hL
  go_loopw [4, 54] (fun m i wr => ∃ k : Nat, k ≤ h.wet.length + 1 ∧ i = .int .i64 k ∧ m = .int .i64 (capTo (h.start :: h.wet) k) ∧ SlAt 2 wr (.slice ov (h.wet.length + 1) cv) (h.wet.length + 1) (pairCells (h.start :: h.wet)) ∧ Below w.heap.size w wr)
    (fun _ i _ => h.wet.length + 1 - (intOf i).toNat)
  case atStart => exact ⟨0, Nat.zero_le _, rfl, rfl, HV.out, hB1⟩
  case round =>
    obtain ⟨k, hk, rfl, rfl, hv, hB⟩ := hrel
    by_cases hlt : k < h.wet.length + 1
    · obtain ⟨b, off, rfl, hb, hc0, hc1⟩ := PairsAt.cell hv (show k < (h.start :: h.wet).length from hlt)
      have hr := HOK.out _ (List.getElem_mem (show k < (h.start :: h.wet).length from hlt))
      have hs := capTo_succ (h.start :: h.wet) k hlt
      have hbd := capTo_bd (h.start :: h.wet) (fun r hr => (HOK.out r hr).2.2.2.1) k
      generalize (h.start :: h.wet)[k] = r at hc0 hc1 hr hs
      obtain ⟨hr1, hr2, hr3, hr4, hr5⟩ := hr
      unfold capStep at hs
      generalize capTo (h.start :: h.wet) k = c at hs hbd
      obtain ⟨hb1, hb2⟩ := hbd
      have HS := Lib.hid hs
      have HV := Lib.hid hv
      have HB := Lib.hid hB
      clear hs hv hB
      have hmul : 0 ≤ c * sizeR r ∧ c * sizeR r ≤ 2001 * 501 := ⟨Int.mul_nonneg (by omega) (by omega), Int.mul_le_mul hb2 hr5 (by omega) (by omega)⟩
      obtain ⟨hm1, hm2⟩ := hmul
      go_wp2_with fail
      refine (size_any r _ hr1 hr2 (by omega)).mono ?_
      rintro e w2 ⟨rfl, hb3⟩
      obtain ⟨hc, hf⟩ := bcell hb3
      go_wp2_with fail
      refine (minimum_two (c * sizeR r) 2001 _ _ _ ?_ ?_).mono ?_
      · go_simp
      · go_simp
      rintro e w3 ⟨rfl, hb4⟩
      go_wp2_with fail
      go_roundw
      case rel =>
        have hB3 : Below w.heap.size w w3 := bgo (bgoAlloc (bgo (bgoAlloc HB.out _) hb3) _) hb4
        exact ⟨k + 1, by omega, by go_num, by rw [HS.out], HV.out.below (((Below.refl wr.heap.size wr).alloc (Nat.le_refl _) _).trans ((hb3.mono (by simp)).trans (((Below.refl _ _).alloc (by have := hb3.size; simp at this; omega) _).trans (hb4.mono (by have := hb3.size; simp at this ⊢; omega))))) (Nat.le_refl _), hB3⟩
      case measure => simp [intOf]; omega
    · have hkl : k = h.wet.length + 1 := by omega
      have hend := capTo_all (h.start :: h.wet) (fun r hr => (HOK.out r hr).2.2.2.1)
      have hr := hres.out
      rw [HL.out, ← hkl] at hend
      generalize capTo (h.start :: h.wet) k = c at hend
      by_cases hc : 2000 < c
      · rw [if_pos (hend.1 hc)] at hr
        have HR := Lib.hid hr
        clear hr hend hres
        go_wp2_with fail
        go_returns
        exact ⟨by rw [HR.out]; simp, hB⟩
      · rw [if_neg (fun x => hc (hend.2 x))] at hr
        have HR := Lib.hid hr
        clear hr hend hres
        go_wp2_with fail
        go_returns
        exact ⟨by rw [HR.out]; simp, hB⟩

/-- **CheckHeap RETURNS THE ERROR OF THE HEAP.** -/
theorem check_any (h : HeapD) (wv tv xv' : Value) (w : World) (hw : PairsAt w wv h.wet) (ht : IntsAt w tv h.turns) (hx : TriplesAt w xv' h.readings) :
    Calls Try.prog 56 #[hv h wv tv xv'] w (PV (iv (fault h)) w) := by
  unfold fault
  by_cases hl : 9 < h.last ∨ 5 < h.readings.length
  · rw [if_pos hl]
    exact check_limit h wv tv xv' w hx (by omega)
  · rw [if_neg hl]
    have h9 : h.last ≤ 9 := by omega
    have h5' : (h.readings.length : Int) ≤ 5 := by omega
    by_cases hv : valid h = false
    · rw [if_pos hv]
      cases h1 : numbersOk h
      · exact check_bad1 h wv tv xv' w hw ht hx h9 h5' h1
      cases h2 : ((h.wet.length : Int) == h.last + 1)
      · exact check_bad2 h wv tv xv' w hw ht hx h9 h5' h1 h2
      cases h3 : isTurns h.last h.turns
      · exact check_bad3 h wv tv xv' w hw ht hx h9 h5' h1 h2 h3
      cases h4 : h.wet.all (okR · 20)
      · exact check_bad4 h wv tv xv' w hw ht hx h9 h5' h1 h2 h3 h4
      cases h5 : h.readings.all (okRdg h.last)
      · exact check_bad5 h wv tv xv' w hw ht hx h9 h5' h1 h2 h3 h4 h5
      exfalso
      have hd : decide ((h.wet.length : Int) = h.last + 1) = true := by simpa using h2
      simp only [valid, h1, hd, h3, h4, h5] at hv
      simp at hv
    · rw [if_neg hv]
      have hv' : valid h = true := by simpa using hv
      simp only [valid, Bool.and_eq_true] at hv'
      exact check_good h wv tv xv' w hw ht hx h9 h5' hv'.1.1.1.1 (by simpa using hv'.1.1.1.2) hv'.1.1.2 hv'.1.2 hv'.2 _ rfl

end Go.Proofs.Ytoibfafmnaooaaa

namespace Go.Proofs.Ytoibfafmnaooaaa
open Go.RowKit Go.RG Go.SL Go.Shelf Cou
set_option maxHeartbeats 400000
set_option maxRecDepth 10000

abbrev sv (n : Int) (t : Bool) : Value := .agg #[iv n, .bool t]

theorem eq_spot (n m : Int) (t u : Bool) (w : World) : (Op.equal 153 (sv n t) (sv m u)).run Try.prog w = .ok ((n == m) && (t == u)) w := by
  unfold Op.equal Op.maxDepth
  simp [go_sem]
  by_cases h1 : n = m <;> by_cases h2 : t = u <;> simp [h1, h2]

theorem check_int (b : Bool) (d : Nat) (n : Int) (w : World) : (Instr.checkKey b (d + 1) 3 (iv n)).run Try.prog w = .ok () w := by
  unfold Instr.checkKey
  simp [go_sem]
theorem check_bool (b : Bool) (d : Nat) (t : Bool) (w : World) : (Instr.checkKey b (d + 1) 4 (.bool t)).run Try.prog w = .ok () w := by
  unfold Instr.checkKey
  simp [go_sem]
theorem check_spot (b : Bool) (n : Int) (t : Bool) (w : World) : (Instr.checkKey b 10000 153 (sv n t)).run Try.prog w = .ok () w := by
  unfold Instr.checkKey
  simp [go_sem]
  rw [check_int, Result.andThen_ok, check_bool]

/-- An entry of the table of what spots cool to. -/
def Entry (cool : Int) (e : MapEntry) : Prop := ∃ n t, e.key = sv n t ∧ e.val = iv (cooled cool n t)

theorem find_spot (cool : Int) (n : Int) (t : Bool) : ∀ (es : List MapEntry) (i : Nat), (∀ e ∈ es, Entry cool e) →
    ∃ r, (∀ w, (Instr.findAsking 153 (sv n t) es i).run Try.prog w = .ok r w) ∧ (∀ j v, r = some (j, v) → v = iv (cooled cool n t) ∧ i ≤ j ∧ j - i < es.length ∧ ∃ e, es[j - i]? = some e ∧ e.key = sv n t) := by
  intro es
  induction es with
  | nil => intro i _; exact ⟨none, fun _ => rfl, fun j v h => by cases h⟩
  | cons e es ih =>
    intro i h
    obtain ⟨m, u, hk, hv⟩ := h e (by simp)
    unfold Instr.findAsking
    simp only [Sem.run_bind, hk, eq_spot, Result.andThen_ok]
    by_cases hc : ((n == m) && (t == u)) = true
    · refine ⟨some (i, e.val), fun w => by rw [if_pos hc]; rfl, fun j v hj => ?_⟩
      simp only [Option.some.injEq, Prod.mk.injEq] at hj
      simp only [Bool.and_eq_true, beq_iff_eq] at hc
      refine ⟨by rw [← hj.2, hv, hc.1, hc.2], by omega, by simp; omega, e, ?_, by rw [hk, hc.1, hc.2]⟩
      rw [← hj.1]; simp
    · obtain ⟨r, h1, h2⟩ := ih (i + 1) (fun x hx => h x (by simp [hx]))
      refine ⟨r, fun w => by rw [if_neg hc]; exact h1 w, fun j v hj => ?_⟩
      obtain ⟨h3, h4, h5, e', h6, h7⟩ := h2 j v hj
      refine ⟨h3, by omega, by simp; omega, e', ?_, h7⟩
      rw [show j - i = (j - (i + 1)) + 1 from by omega, List.getElem?_cons_succ]
      exact h6

theorem key_spot (cool : Int) (n : Int) (t : Bool) (es : List MapEntry) (h : ∀ e ∈ es, Entry cool e) :
    ∃ r, (∀ w, (Instr.findKey 153 (sv n t) es).run Try.prog w = .ok r w) ∧ (∀ j v, r = some (j, v) → v = iv (cooled cool n t) ∧ j < es.length ∧ ∃ e, es[j]? = some e ∧ e.key = sv n t) := by
  unfold Instr.findKey
  simp only [Sem.run_bind, run_underlying Try.underlying153, Result.andThen_ok]
  cases es with
  | nil => exact ⟨none, fun _ => rfl, fun j v h => by cases h⟩
  | cons e es =>
    simp only [Instr.findNow, Instr.sameNow]
    obtain ⟨r, h1, h2⟩ := find_spot cool n t (e :: es) 0 h
    exact ⟨r, h1, fun j v hj => by
      obtain ⟨a, b, c, d⟩ := h2 j v hj
      exact ⟨a, by simpa using c, by simpa using d⟩⟩

/-- The table in block mb holds what spots cool to, and nothing else. -/
def Cache (W : World) (mb : Nat) (cool : Int) : Prop := ∃ es clock, W.heap[mb]? = some (.map es clock) ∧ ∀ e ∈ es.toList, Entry cool e

theorem Cache.kept {W W' : World} {mb : Nat} {cool : Int} (h : Cache W mb cool) (hk : W'.heap[mb]? = W.heap[mb]?) : Cache W' mb cool := by
  obtain ⟨es, c, h1, h2⟩ := h; exact ⟨es, c, hk.trans h1, h2⟩
theorem Cache.lt {W : World} {mb : Nat} {cool : Int} (h : Cache W mb cool) : mb < W.heap.size := by
  obtain ⟨es, c, h1, h2⟩ := h; exact (Array.getElem?_eq_some_iff.1 h1).1

theorem look_spot {W0 : World} {mb : Nat} {cool : Int} (h : Cache W0 mb cool) (n : Int) (t : Bool) :
    ∃ x ok, (ok = true → x = cooled cool n t) ∧ ∀ W : World, W.heap[mb]? = W0.heap[mb]? →
      (Instr.lookup 116 (.map (some mb)) (sv n t) true).run Try.prog W = .ok (.tuple #[iv x, .bool ok]) W := by
  obtain ⟨es, c, h1, h2⟩ := h
  obtain ⟨r, hr, hv⟩ := key_spot cool n t es.toList h2
  have hobj : ∀ W : World, W.heap[mb]? = W0.heap[mb]? → (getObj mb).run Try.prog W = .ok (.map es c) W := fun W hW => by
    simp [getObj, Sem.run, hW, h1]
  have hz : ∀ W : World, (zeroValue 3).run Try.prog W = .ok (iv 0) W := fun W => by simp [go_sem]
  cases r with
  | none =>
    refine ⟨0, false, (fun h => by cases h), fun W hW => ?_⟩
    simp [Instr.lookup, run_underlying Try.underlying116, hobj W hW, check_spot, hr, hz]
  | some p =>
    obtain ⟨j, v⟩ := p
    obtain ⟨rfl, _⟩ := hv j v rfl
    refine ⟨cooled cool n t, true, fun _ => rfl, fun W hW => ?_⟩
    simp [Instr.lookup, run_underlying Try.underlying116, hobj W hW, check_spot, hr]

theorem sameBits_spot (n : Int) (t : Bool) : Instr.sameBits 10000 (sv n t) (sv n t) = true := by
  simp [Instr.sameBits]

theorem update_spot {W : World} {mb : Nat} {cool : Int} (h : Cache W mb cool) (n : Int) (t : Bool) :
    ∃ W', (Instr.mapUpdate 116 (.map (some mb)) (sv n t) (iv (cooled cool n t))).run Try.prog W = .ok () W' ∧ Cache W' mb cool ∧ Ext [mb] W W' := by
  have hlt := h.lt
  obtain ⟨es, c, h1, h2⟩ := h
  obtain ⟨r, hr, hv⟩ := key_spot cool n t es.toList h2
  have hobj : (getObj mb).run Try.prog W = .ok (.map es c) W := by simp [getObj, Sem.run, h1]
  have hset : ∀ es' c', (setObj mb (.map es' c')).run Try.prog W = .ok () { W with heap := W.heap.setIfInBounds mb (.map es' c') } := fun es' c' => by
    simp [setObj, Sem.run, h1]
  have hext : ∀ o : Obj, Ext [mb] W { W with heap := W.heap.setIfInBounds mb o } := fun o =>
    ⟨rfl, rfl, rfl, by simp, fun k _ hm => by simp only [Array.getElem?_setIfInBounds]; rw [if_neg (by simp at hm; omega)]⟩
  have hcache : ∀ es' c', (∀ e ∈ es'.toList, Entry cool e) → Cache { W with heap := W.heap.setIfInBounds mb (.map es' c') } mb cool := fun es' c' he =>
    ⟨es', c', by simp [hlt], he⟩
  cases r with
  | none =>
    refine ⟨_, ?_, hcache (es.push { key := sv n t, val := iv (cooled cool n t), born := c }) (c + 1) ?_, hext _⟩
    · simp [Instr.mapUpdate, run_underlying Try.underlying116, hobj, check_spot, hr, hset]
    · intro e he
      simp only [Array.toList_push, List.mem_append, List.mem_singleton] at he
      rcases he with he | rfl
      · exact h2 e he
      · exact ⟨n, t, rfl, rfl⟩
  | some p =>
    obtain ⟨j, v⟩ := p
    obtain ⟨rfl, hj, e0, he0, hk0⟩ := hv j v rfl
    have hje : es[j]? = some e0 := by simpa using he0
    refine ⟨_, ?_, hcache (es.modify j fun e => { e with key := sv n t, val := iv (cooled cool n t) }) c ?_, hext _⟩
    · simp [Instr.mapUpdate, run_underlying Try.underlying116, hobj, check_spot, hr, hset, Instr.keyThatStays, hje, hk0, sameBits_spot]
    · intro e he
      obtain ⟨i, hi, rfl⟩ := List.getElem_of_mem he
      simp only [Array.getElem_toList, Array.getElem_modify]
      split
      · exact ⟨n, t, rfl, rfl⟩
      · exact h2 _ (by simp)

/-- The cells of a heap at work. -/
abbrev wcells (h : HeapD) (a b c : Value) (mb : Nat) : Array Value :=
  #[.int .i64 h.last, .int .i64 h.size, .int .i64 h.cool, .int .i64 h.die, .int .i64 h.burn, .int .i64 h.start.1, .int .i64 h.start.2, a, b, c, .map (some mb)]

/-- A heap at work lies in block wb, its table in block mb. -/
structure WorkAt (W : World) (wb mb : Nat) (h : HeapD) (a b c : Value) : Prop where
  cells : W.heap[wb]? = some (.cells (wcells h a b c mb) 118 (0, 0))
  cache : Cache W mb h.cool

theorem WorkAt.ne {W : World} {wb mb : Nat} {h : HeapD} {a b c : Value} (hw : WorkAt W wb mb h a b c) : wb ≠ mb := by
  intro e
  obtain ⟨es, k, h1, _⟩ := hw.cache
  have := hw.cells
  rw [e, h1] at this
  cases this
theorem WorkAt.lt {W : World} {wb mb : Nat} {h : HeapD} {a b c : Value} (hw : WorkAt W wb mb h a b c) : wb < W.heap.size := (Array.getElem?_eq_some_iff.1 hw.cells).1
theorem WorkAt.kept {W W' : World} {wb mb : Nat} {h : HeapD} {a b c : Value} (hw : WorkAt W wb mb h a b c) (h1 : W'.heap[wb]? = W.heap[wb]?) (h2 : W'.heap[mb]? = W.heap[mb]?) : WorkAt W' wb mb h a b c :=
  ⟨h1.trans hw.cells, hw.cache.kept h2⟩
theorem WorkAt.below {W W' : World} {wb mb : Nat} {h : HeapD} {a b c : Value} (hw : WorkAt W wb mb h a b c) {B : Nat} (hb : Below B W W') (hB : W.heap.size ≤ B) : WorkAt W' wb mb h a b c :=
  hw.kept (hb.block _ (by have := hw.lt; omega)) (hb.block _ (by have := hw.cache.lt; omega))
/-- Behind whatever turned the table alone. -/
theorem WorkAt.ext {W W' : World} {wb mb : Nat} {h : HeapD} {a b c : Value} (hw : WorkAt W wb mb h a b c) (hE : Ext [mb] W W') (hc : Cache W' mb h.cool) : WorkAt W' wb mb h a b c :=
  ⟨(hE.block wb hw.lt (by simpa using hw.ne)).trans hw.cells, hc⟩
theorem WorkAt.cell {W : World} {wb mb : Nat} {h : HeapD} {a b c : Value} (hw : WorkAt W wb mb h a b c) (i : Nat) : W.cell? ⟨wb, i, none⟩ = (wcells h a b c mb)[i]? := by
  simp [World.cell?, hw.cells]

def WorkPost (w : World) (h : HeapD) (a b c : Value) (e : Ending) (W : World) : Prop :=
  ∃ wb mb, e = .returned (.pointer (some ⟨wb, 0, none⟩)) ∧ w.heap.size ≤ wb ∧ w.heap.size ≤ mb ∧ WorkAt W wb mb h a b c ∧ Below w.heap.size w W

theorem work_any (h : HeapD) (ow ot ox : Option Addr) (nw cw nt ct nx cx : Nat) (w : World) :
    Calls Try.prog 71 #[hv h (.slice ow nw cw) (.slice ot nt ct) (.slice ox nx cx)] w (WorkPost w h (.slice ow nw cw) (.slice ot nt ct) (.slice ox nx cx)) := by
  have hmm := @run_makeMap Try.prog
  go_enter Try.func71, Try.ntmps71
  go_wp2
  go_returns
  refine ⟨w.heap.size + 2, w.heap.size + 1, by simp, by omega, by omega, ⟨heap_new2 _ _ _ _, #[], 0, ?_, by simp⟩, (by repeat (first | exact Below.refl _ _ | assumption | refine bgo ?_ (by assumption) | refine bgoAlloc ?_ _ | refine bgoDrew ?_ | refine bgoSet ?_ (by simp; omega) _))⟩
  exact (Below.heap_alloc _ _ _ (by simp)).trans (heap_new1 _ _ _)

theorem cool_any (h : HeapD) (a b c : Value) (wb mb : Nat) (n : Int) (t : Bool) (w : World) (hw : WorkAt w wb mb h a b c) (hn0 : 0 ≤ n) (hn1 : n ≤ 100000) (hc0 : 0 ≤ h.cool) (hc1 : h.cool ≤ 100) :
    Calls Try.prog 111 #[.pointer (some ⟨wb, 0, none⟩), sv n t] w (fun e w' => e = .returned (iv (cooled h.cool n t)) ∧ Cache w' mb h.cool ∧ Ext [mb] w w') := by
  have c2 := hw.cell 2
  have c10 := hw.cell 10
  have hlt := hw.lt
  have hwc := hw.cache
  obtain ⟨x, ok, hx, hlook⟩ := look_spot (hwc) n t
  simp at c2 c10
  have hm0 : 0 ≤ n * h.cool := Int.mul_nonneg hn0 hc0
  have hm1 : n * h.cool ≤ 100000 * 100 := Int.mul_le_mul hn1 hc1 hc0 (by omega)
  have HW := Lib.hid hw
  have HC := Lib.hid hwc
  have HX := Lib.hid hx
  have HL := Lib.hid hlook
  clear hw hwc hx hlook
  have hmb := HC.out.lt
  have HU := Lib.hid (fun (W2 : World) (hc : Cache W2 mb h.cool) => update_spot hc n t)
  cases ok
  · cases t
    all_goals
      go_enter Try.func111, Try.ntmps111
      go_wp2_with fail
      refine wp_region_rg 11 [] none [] (by kernel_rfl) (by kernel_rfl) ?_
      simp only [List.take_succ_cons, List.take_zero, List.drop_succ_cons, List.drop_zero]
      repeat (refine tree_det (by rfl) _ (by rfl) (fun W hW => by go_simp; (try simp (disch := omega) only [IntWalk.i64_in, Int.tdiv_eq_ediv_of_nonneg]); try rfl) ?_; simp only [Act.put, List.setIfInBounds_toArray, List.set_cons_succ, List.set_cons_zero])
      refine tree_det_on (by rfl) _ (by rfl) (fun W hE _ => by have := HL.out W ((hE.block mb (by simp; omega) (by simp)).trans (Below.heap_alloc _ _ _ hmb)); go_simp; try rfl) ?_
      simp only [Act.put, List.setIfInBounds_toArray, List.set_cons_succ, List.set_cons_zero]
      repeat (refine tree_det (by rfl) _ (by rfl) (fun W hW => by go_simp; (try simp (disch := omega) only [IntWalk.i64_in, Int.tdiv_eq_ediv_of_nonneg]); try rfl) ?_; simp only [Act.put, List.setIfInBounds_toArray, List.set_cons_succ, List.set_cons_zero])
      intro W hE hF
      obtain ⟨hc, hf⟩ := bcell hE.below
      have hzE := hE.size
      (try simp only [World.size_alloc] at hzE)
      have hzw : wb < W.heap.size := by omega
      have hz0 : w.heap.size < W.heap.size := by omega
      go_wp2_with fail
      refine wp_region_rg 6 [] none [] (by kernel_rfl) (by kernel_rfl) ?_
      simp only [List.take_succ_cons, List.take_zero, List.drop_succ_cons, List.drop_zero]
      repeat (refine tree_det (by rfl) _ (by rfl) (fun W hW => by go_simp; (try simp (disch := omega) only [IntWalk.i64_in, Int.tdiv_eq_ediv_of_nonneg]); try rfl) ?_; simp only [Act.put, List.setIfInBounds_toArray, List.set_cons_succ, List.set_cons_zero])
      intro W2 hE2 hF2
      have hW2 : Below w.heap.size w W2 := (bgo (bgo (bgoAlloc (Below.refl _ _) _) hE.below) hE2.below)
      clear hc hf hzE hF hF2
      obtain ⟨W3, hrun, hcache, hext⟩ := HU.out W2 (HC.out.kept (W' := W2) (hW2.block mb hmb))
      have HA := Lib.hid hcache
      have HE := Lib.hid hext
      clear hcache hext
      first | (simp only [show cooled h.cool n false = n from rfl] at hrun) | (simp only [show cooled h.cool n true = n - n * h.cool / 100 from rfl] at hrun)
      go_wp2_with fail
      go_returns
      refine ⟨by simp [cooled], HA.out, ?_⟩
      have hEw : Ext [mb] w W2 := ⟨hW2.os, hW2.tape, hW2.output, hW2.size, fun k hk _ => hW2.block k hk⟩
      exact hEw.trans HE.out
  · go_enter Try.func111, Try.ntmps111
    go_wp2_with fail
    refine wp_region_rg 11 [] none [] (by kernel_rfl) (by kernel_rfl) ?_
    simp only [List.take_succ_cons, List.take_zero, List.drop_succ_cons, List.drop_zero]
    repeat (refine tree_det (by rfl) _ (by rfl) (fun W hW => by go_simp; (try simp (disch := omega) only [IntWalk.i64_in, Int.tdiv_eq_ediv_of_nonneg]); try rfl) ?_; simp only [Act.put, List.setIfInBounds_toArray, List.set_cons_succ, List.set_cons_zero])
    refine tree_det_on (by rfl) _ (by rfl) (fun W hE _ => by have := HL.out W ((hE.block mb (by simp; omega) (by simp)).trans (Below.heap_alloc _ _ _ hmb)); go_simp; try rfl) ?_
    simp only [Act.put, List.setIfInBounds_toArray, List.set_cons_succ, List.set_cons_zero]
    repeat (refine tree_det (by rfl) _ (by rfl) (fun W hW => by go_simp; (try simp (disch := omega) only [IntWalk.i64_in, Int.tdiv_eq_ediv_of_nonneg]); try rfl) ?_; simp only [Act.put, List.setIfInBounds_toArray, List.set_cons_succ, List.set_cons_zero])
    intro W hE hF
    obtain ⟨hc, hf⟩ := bcell hE.below
    have hzE := hE.size
    (try simp only [World.size_alloc] at hzE)
    have hW : Below w.heap.size w W := bgo (bgoAlloc (Below.refl _ _) _) hE.below
    go_wp2_with fail
    go_returns
    refine ⟨by rw [← HX.out (by trivial)]; simp, HC.out.kept (hW.block mb hmb), Ext.of_below hW⟩

end Go.Proofs.Ytoibfafmnaooaaa

namespace Go.Proofs.Ytoibfafmnaooaaa
open Go.RowKit Go.RG Go.SL Go.Shelf Cou
set_option maxHeartbeats 400000
set_option maxRecDepth 10000

abbrev aggI (l : List Int) : Value := .agg (intCells l).toArray

theorem Cache.noCell {W : World} {mb : Nat} {cool : Int} (h : Cache W mb cool) (o : Nat) : W.cell? ⟨mb, o, none⟩ = none := by
  obtain ⟨es, c, h1, _⟩ := h
  simp [World.cell?, h1]

theorem play_any (h : HeapD) (a b c : Value) (wb mb : Nat) (start : Int) (wet turns : List Int) (ws ts : Value) (w : World) (hw : WorkAt w wb mb h a b c) (hws : IntsAt w ws wet) (hts : IntsAt w ts turns) (hlen : wet.length ≤ 10)
    (hs0 : 0 ≤ h.size) (hs1 : h.size ≤ 20) (hc0 : 0 ≤ h.cool) (hc1 : h.cool ≤ 100) (h0 : 0 ≤ start) (h1 : start ≤ 500) (hwet : ∀ x ∈ wet, 0 ≤ x ∧ x ≤ 20) :
    Calls Try.prog 80 #[.pointer (some ⟨wb, 0, none⟩), .agg #[iv start, ws], ts] w
      (fun e w' => e = .returned (aggI (heats h (start, wet) turns)) ∧ Cache w' mb h.cool ∧ Ext [mb] w w') := by
  have hbd := heatAt_bd turns wet hs0 hs1 hc0 hc1 h0 h1 hwet
  obtain ⟨ow, cw, rfl⟩ := hws.open
  obtain ⟨ot, ct, rfl⟩ := hts.open
  have HW := Lib.hid hw
  have HS := Lib.hid hws
  have HT := Lib.hid hts
  have HB := Lib.hid hbd
  have HX := Lib.hid hwet
  have hlt := hw.lt
  have hmb := hw.cache.lt
  clear hw hws hts hbd hwet
  go_enter Try.func80, Try.ntmps80
  go_wp2_with fail
  go_loopw [7, 15] (fun v7 i wr => ∃ k : Nat, k ≤ wet.length ∧ i = .int .i64 k ∧ v7 = .int .i64 (heatAt h.size h.cool turns start wet k) ∧ WorkAt wr wb mb h a b c ∧
      wr.heap[w.heap.size + 1]? = some (.cells (intCells (heatsTo h.size h.cool turns start wet k)).toArray 127 (0, 0)) ∧ Ext [mb] w wr)
    (fun _ i _ => wet.length - (intOf i).toNat)
  case atStart =>
    exact ⟨0, Nat.zero_le _, rfl, rfl, HW.out.below (bgoAlloc (bgoAlloc (Below.refl _ _) _) _) (Nat.le_refl _), heap_new1 _ _ _, Ext.of_below (bgoAlloc (bgoAlloc (Below.refl _ _) _) _)⟩
  case round =>
    obtain ⟨k, hk, rfl, rfl, hwk, hblk, hE0⟩ := hrel
    have hmbw : ∀ x ∈ [mb], ∀ o, w.cell? ⟨x, o, none⟩ = none := fun x hx o => by
      have : x = mb := by simpa using hx
      subst this
      exact HW.out.cache.noCell o
    have hws := HS.out.ext_other hE0 hmbw
    have hts := HT.out.ext_other hE0 hmbw
    have hne := hwk.ne
    have hlt2 := hwk.lt
    have hsz := hE0.size
    have hmb2 := hwk.cache.lt
    have hb6 : w.heap.size + 1 < wr.heap.size := (Array.getElem?_eq_some_iff.1 hblk).1
    have hb6m : ¬ w.heap.size + 1 = mb := by omega
    by_cases hltk : k < wet.length
    · obtain ⟨bb, off, rfl, hbb, hcx⟩ := IntsAt.cell hws hltk
      have hx := HX.out _ (List.getElem_mem hltk)
      have hn := HB.out k
      have hnext : heatAt h.size h.cool turns start wet (k + 1) = cooled h.cool (heatAt h.size h.cool turns start wet k) (turns.contains (k : Int)) + h.size * wet[k] / 10 := by
        simp only [heatAt, stepH]
        rw [show wet.getD k 0 = wet[k] from by simp [hltk]]
      have hcd := cooled_bd hc0 hc1 hn.1 (turns.contains (k : Int))
      have hset := heatsTo_succ h.size h.cool turns start wet k (by omega)
      have hc1x := hwk.cell 1
      simp at hc1x
      rw [hnext] at hset
      have HNX := Lib.hid hnext
      generalize heatAt h.size h.cool turns start wet k = n at hn hcd hset HNX
      generalize wet[k] = x at hcx hx hset HNX
      obtain ⟨hx0, hx1⟩ := hx
      obtain ⟨hn0, hn1⟩ := hn
      obtain ⟨hd0, hd1⟩ := hcd
      have hm0 : 0 ≤ h.size * x := Int.mul_nonneg hs0 hx0
      have hm1 : h.size * x ≤ 20 * 20 := Int.mul_le_mul hs1 hx1 hx0 (by omega)
      have hk10 : (k : Int) < 10 := by omega
      have HSET := Lib.hid hset
      have HBLK := Lib.hid hblk
      have HE0 := Lib.hid hE0
      have HWK := Lib.hid hwk
      have HWS := Lib.hid hws
      have HTS := Lib.hid hts
      have HMBW := Lib.hid hmbw
      clear hnext hset hblk hE0 hwk hws hts hmbw
      have HNC : Hid (∀ x ∈ [mb], ∀ o, wr.cell? ⟨x, o, none⟩ = none) := fun x hx o => by
        have : x = mb := by simpa using hx
        subst this
        exact HWK.out.cache.noCell o
      generalize hcb : turns.contains (k : Int) = tb at hd0 hd1 HSET HNX
      have HCB := Lib.hid hcb
      clear hcb
      generalize hcd : cooled h.cool n tb = cn at hd0 hd1 HSET HNX
      have HCD := Lib.hid hcd
      clear hcd
      go_wp2_with fail
      refine wp_region_rg 16 [mb] (some 6) [(4, Spec.val (.bool tb)), (6, ⟨fun _ v => v = iv cn, fun _ _ W => Cache W mb h.cool⟩)] (by kernel_rfl) (by kernel_rfl) ?_
      simp only [List.take_succ_cons, List.take_zero, List.drop_succ_cons, List.drop_zero]
      repeat (refine tree_det (by rfl) _ (by rfl) (fun W hW => by go_simp; (try simp (disch := omega) only [IntWalk.i64_in, Int.tdiv_eq_ediv_of_nonneg]); try rfl) ?_; simp only [Act.put, List.setIfInBounds_toArray, List.set_cons_succ, List.set_cons_zero])
      refine tree_val _ (by rfl) (by rfl) 112 _ (fun W hW => by go_simp; try rfl) (fun W hE hF => by have := contains_any turns (.slice ot turns.length ct) (k : Int) W (HTS.out.ext_other hE HNC.out); rw [HCB.out] at this; exact this) ?_
      simp only [Act.put, List.setIfInBounds_toArray, List.set_cons_succ, List.set_cons_zero]
      repeat (refine tree_det (by rfl) _ (by rfl) (fun W hW => by go_simp; (try simp (disch := omega) only [IntWalk.i64_in, Int.tdiv_eq_ediv_of_nonneg]); try rfl) ?_; simp only [Act.put, List.setIfInBounds_toArray, List.set_cons_succ, List.set_cons_zero])
      refine tree_some _ (by rfl) (by rfl) ⟨_, rfl⟩ (fun W hE hF => ?_) (fun v W W' hc hE => ?_) (fun v hv => ?_)
      · have hE' : Ext [] wr W := hE
        refine does_enter 111 #[.pointer (some ⟨wb, 0, none⟩), sv n tb] (by go_simp; try rfl) ?_
        refine (cool_any h a b c wb mb n tb W (HWK.out.below hE'.below (Nat.le_refl _)) hn0 (by omega) hc0 hc1).mono ?_
        rintro e W' ⟨rfl, hcc, hE2⟩
        exact ⟨_, rfl, by rw [HCD.out], hcc, hE2⟩
      · have hE' : Ext [] W W' := hE
        exact Cache.kept hc (hE'.block mb (Cache.lt hc) (by simp))
      obtain rfl : v = iv cn := hv
      simp only [Act.put, List.setIfInBounds_toArray, List.set_cons_succ, List.set_cons_zero]
      repeat (refine tree_det (by rfl) _ (by rfl) (fun W hW => by go_simp; (try simp (disch := omega) only [IntWalk.i64_in, Int.tdiv_eq_ediv_of_nonneg]); try rfl) ?_; simp only [Act.put, List.setIfInBounds_toArray, List.set_cons_succ, List.set_cons_zero])
      intro W hE hF
      have hCW : Cache W mb h.cool := hF _ (List.Mem.head _)
      have hblkW := (hE.block (w.heap.size + 1) hb6 (by simpa using hb6m)).trans HBLK.out
      have hfr := frozen_of_block hblkW
      have hck := cell_of_ints hblkW (show k < (heatsTo h.size h.cool turns start wet k).length by rw [heatsTo_length]; omega)
      have HCW := Lib.hid hCW
      have HBW := Lib.hid hblkW
      have HEW := Lib.hid hE
      clear hF hCW hblkW hE
      go_wp2_with fail
      go_roundw
      case rel =>
        refine ⟨k + 1, by omega, by go_num, by rw [HNX.out], ?_, ?_, ?_⟩
        · exact ((HWK.out.ext HEW.out HCW.out).kept (Below.heap_setCell _ _ _ _ (by show wb ≠ w.heap.size + 1; omega)) (Below.heap_setCell _ _ _ _ (by show mb ≠ w.heap.size + 1; omega)))
        · rw [HSET.out, ← set_ints]
          exact set_block HBW.out _
        · exact (HE0.out.trans HEW.out).set (by show w.heap.size ≤ w.heap.size + 1; omega) _
      case measure => simp [intOf]; omega
    · have hkl : k = wet.length := by omega
      obtain ⟨y0, y1, y2, y3, y4, y5, y6, y7, y8, y9, hy⟩ := ten_of (heatsTo_length h.size h.cool turns start wet k)
      have hres : heats h (start, wet) turns = [y0, y1, y2, y3, y4, y5, y6, y7, y8, y9] := by rw [← hy, hkl]; rfl
      rw [hy] at hblk
      have hfr := frozen_of_block hblk
      have hcs : ∀ i, wr.cell? ⟨w.heap.size + 1, i, none⟩ = (#[iv y0, iv y1, iv y2, iv y3, iv y4, iv y5, iv y6, iv y7, iv y8, iv y9] : Array Value)[i]? := fun i => by
        simp only [World.cell?, hblk]; rfl
      have HRES := Lib.hid hres
      have HE0 := Lib.hid hE0
      have HWK := Lib.hid hwk
      clear hres hy hblk hE0 hwk hws hts hmbw
      go_wp2_with fail
      (try simp only [Exit.inBlock, Exit.then])
      refine bodyPost_ret (v := .agg #[iv y0, iv y1, iv y2, iv y3, iv y4, iv y5, iv y6, iv y7, iv y8, iv y9]) (by simp [results, Try.results80, go_sem, hcs]) rfl ⟨by rw [HRES.out]; rfl, ?_, ?_⟩
      · refine HWK.out.cache.kept ?_
        repeat rw [Below.heap_setCell _ _ _ _ (by show mb ≠ w.heap.size + 1; omega)]
      · repeat (refine Ext.set ?_ (by show w.heap.size ≤ w.heap.size + 1; omega) _)
        exact HE0.out

end Go.Proofs.Ytoibfafmnaooaaa

namespace Go.Proofs.Ytoibfafmnaooaaa
open Go.RowKit Go.RG Go.SL Go.Shelf Cou
set_option maxHeartbeats 400000
set_option maxRecDepth 10000

/-- It returns a slice of its own; nothing that was there has turned. -/
def POwn (t : TypeId) (size n : Nat) (xs : List Value) (w : World) (e : Ending) (w' : World) : Prop := ∃ v, e = .returned v ∧ w'.ownsRow w.heap.size t size v n xs ∧ Below w.heap.size w w'

theorem clone_any (l : List Int) (v : Value) (w : World) (hv : IntsAt w v l) (hlen : l.length ≤ 1000) :
    Calls Try.prog 81 #[v] w (POwn 3 1 l.length (intCells l) w) := by
  obtain ⟨o, c, rfl⟩ := hv.open
  have HV := Lib.hid hv
  have hnil := fun (w : World) a n c => Lib.run_eql_slice_nil (P := Try.prog) w 25 3 a n c 0 0 Try.underlying25
  cases o with
  | none =>
    have hl0 : l.length = 0 := by
      obtain ⟨_, o, c', h0, h1, h2, h3, h4⟩ := hv
      cases h0
      have := h3 rfl
      omega
    have hc0 : c = 0 := by
      obtain ⟨_, o, c', h0, h1, h2, h3, h4⟩ := hv
      cases h0
      exact h3 rfl
    have hl : l = [] := List.eq_nil_of_length_eq_zero hl0
    subst hl
    clear hv
    subst hc0
    go_enter Try.func81, Try.ntmps81
    go_wp2
    go_returns
    exact ⟨.slice none 0 0, by simp, ⟨by simp [intCells], .inl ⟨rfl, rfl⟩⟩, Below.refl _ _⟩
  | some a =>
    obtain ⟨b, off, sp⟩ := a
    obtain rfl : sp = none := by
      obtain ⟨_, o, c', h0, h1, h2, h3, h4⟩ := hv
      cases h0
      exact (h4 _ rfl).1
    clear hv
    go_enter Try.func81, Try.ntmps81
    go_wp2_with (at_builtin; refine wpList_append rfl _ _ tInts rfl w.heap.size (.slice (some ⟨w.heap.size, 0, none⟩) 0 0) 0 [] rfl ?_ (.slice (some ⟨b, off, none⟩) l.length c) l.length (intCells l) rfl ?_ (one_ints _) (by omega) (by omega) (by simp) ?_)
    · exact owns_block (cs := #[]) (n := 0) (heap_new0 _ _) rfl (Nat.le_refl _) (by decide)
    · exact HV.out.alloc _
    · intro v' w1 hown hgrow
      have HO := Lib.hid hown
      have HG := Lib.hid hgrow
      clear hown hgrow
      go_wp2
      go_returns
      refine ⟨v', by simp, ?_, ?_⟩
      · exact HO.out
      · exact Below.grown (bgoAlloc (Below.refl _ _) _) HG.out (by simp) (fun k e => by cases e; exact Nat.le_refl _)

theorem listed_any (h : HeapD) (b c : Value) (wv ws : Value) (start : Int) (wet : List Int) (w : World) (hw : PairsAt w wv h.wet) (hws : IntsAt w ws wet) (h0 : 0 ≤ h.last) (h9 : h.last ≤ 9) (hwl : (h.wet.length : Int) = h.last + 1) :
    Calls Try.prog 78 #[hv h wv b c, .agg #[iv start, ws]] w (PV (.bool (listedT h (start, wet))) w) := by
  obtain ⟨ow, cw, rfl⟩ := hw.open
  obtain ⟨os, cs, rfl⟩ := hws.open
  have hnl := hw.len
  have hsl := hws.len
  have HW := Lib.hid hw
  have HS := Lib.hid hws
  clear hw hws
  by_cases hl : (wet.length : Int) = h.last + 1
  case neg =>
    have hln : ((wet.length : Int) != h.last + 1) = true := by simpa using hl
    have hres : listedT h (start, wet) = false := by simp [listedT, hln]
    rw [hres]
    clear hl hres
    go_enter Try.func78, Try.ntmps78
    go_wp2_with fail
    refine wp_region_rg 14 [] none [(4, Spec.val (iv (h.last + 1)))] (by kernel_rfl) (by kernel_rfl) ?_
    simp only [List.take_succ_cons, List.take_zero, List.drop_succ_cons, List.drop_zero]
    repeat (first | (refine tree_det (by rfl) _ (by rfl) (fun W hW => by go_simp; (try simp (disch := omega) only [IntWalk.i64_in, Int.tdiv_eq_ediv_of_nonneg]); try rfl) ?_; simp only [Act.put, List.setIfInBounds_toArray, List.set_cons_succ, List.set_cons_zero]) | (refine tree_skip (by rfl) (by rfl) ?_; simp only [Act.put, List.setIfInBounds_toArray, List.set_cons_succ, List.set_cons_zero]))
    refine tree_val _ (by rfl) (by rfl) 82 _ (fun W hW => by go_simp; try rfl) (fun W hE hF => by exact hours_any h _ _ _ W h0 h9) ?_
    simp only [Act.put, List.setIfInBounds_toArray, List.set_cons_succ, List.set_cons_zero]
    repeat (first | (refine tree_det (by rfl) _ (by rfl) (fun W hW => by go_simp; (try simp (disch := omega) only [IntWalk.i64_in, Int.tdiv_eq_ediv_of_nonneg]); try rfl) ?_; simp only [Act.put, List.setIfInBounds_toArray, List.set_cons_succ, List.set_cons_zero]) | (refine tree_skip (by rfl) (by rfl) ?_; simp only [Act.put, List.setIfInBounds_toArray, List.set_cons_succ, List.set_cons_zero]))
    intro W hE hF
    obtain ⟨hc, hf⟩ := bcell hE.below
    have hzE := hE.size
    (try simp only [World.size_alloc] at hzE)
    go_wp2
    go_returns
    exact ⟨by simp, (by repeat (first | exact Below.refl _ _ | assumption | refine bgo ?_ hE.below | refine bgo ?_ (by assumption) | refine bgoAlloc ?_ _ | refine bgoDrew ?_ | refine bgoSet ?_ (by simp; try omega) _))⟩
  have hln : ((wet.length : Int) != h.last + 1) = false := by simpa using hl
  cases hst : inB start h.start.1 h.start.2
  · have hres : listedT h (start, wet) = false := by simp [listedT, hst]
    rw [hres]
    have HH := Lib.hid hst
    clear hres hst
    go_enter Try.func78, Try.ntmps78
    go_wp2_with fail
    refine wp_region_rg 14 [] none [(4, Spec.val (iv (h.last + 1))), (11, Spec.val (.bool false))] (by kernel_rfl) (by kernel_rfl) ?_
    simp only [List.take_succ_cons, List.take_zero, List.drop_succ_cons, List.drop_zero]
    repeat (first | (refine tree_det (by rfl) _ (by rfl) (fun W hW => by go_simp; (try simp (disch := omega) only [IntWalk.i64_in, Int.tdiv_eq_ediv_of_nonneg]); try rfl) ?_; simp only [Act.put, List.setIfInBounds_toArray, List.set_cons_succ, List.set_cons_zero]) | (refine tree_skip (by rfl) (by rfl) ?_; simp only [Act.put, List.setIfInBounds_toArray, List.set_cons_succ, List.set_cons_zero]))
    refine tree_val _ (by rfl) (by rfl) 82 _ (fun W hW => by go_simp; try rfl) (fun W hE hF => by exact hours_any h _ _ _ W h0 h9) ?_
    simp only [Act.put, List.setIfInBounds_toArray, List.set_cons_succ, List.set_cons_zero]
    repeat (first | (refine tree_det (by rfl) _ (by rfl) (fun W hW => by go_simp; (try simp (disch := omega) only [IntWalk.i64_in, Int.tdiv_eq_ediv_of_nonneg]); try rfl) ?_; simp only [Act.put, List.setIfInBounds_toArray, List.set_cons_succ, List.set_cons_zero]) | (refine tree_skip (by rfl) (by rfl) ?_; simp only [Act.put, List.setIfInBounds_toArray, List.set_cons_succ, List.set_cons_zero]))
    refine tree_val _ (by rfl) (by rfl) 107 _ (fun W hW => by go_simp; try rfl) (fun W hE hF => by have := has_any h.start start W; rw [HH.out] at this; exact this) ?_
    simp only [Act.put, List.setIfInBounds_toArray, List.set_cons_succ, List.set_cons_zero]
    repeat (first | (refine tree_det (by rfl) _ (by rfl) (fun W hW => by go_simp; (try simp (disch := omega) only [IntWalk.i64_in, Int.tdiv_eq_ediv_of_nonneg]); try rfl) ?_; simp only [Act.put, List.setIfInBounds_toArray, List.set_cons_succ, List.set_cons_zero]) | (refine tree_skip (by rfl) (by rfl) ?_; simp only [Act.put, List.setIfInBounds_toArray, List.set_cons_succ, List.set_cons_zero]))
    intro W hE hF
    obtain ⟨hc, hf⟩ := bcell hE.below
    have hzE := hE.size
    (try simp only [World.size_alloc] at hzE)
    go_wp2
    go_returns
    exact ⟨by simp, (by repeat (first | exact Below.refl _ _ | assumption | refine bgo ?_ hE.below | refine bgo ?_ (by assumption) | refine bgoAlloc ?_ _ | refine bgoDrew ?_ | refine bgoSet ?_ (by simp; try omega) _))⟩
  · have hres : listedT h (start, wet) = (List.range h.wet.length).all (listedAt h (start, wet)) := by simp only [listedT, hst, hln]; simp
    have HR := Lib.hid hres
    have HH := Lib.hid hst
    have HLW : Hid (wet.length = h.wet.length) := Lib.hid (by omega)
    clear hres hst
    go_enter Try.func78, Try.ntmps78
    go_wp2_with fail
    refine wp_region_rg 14 [] none [(4, Spec.val (iv (h.last + 1))), (11, Spec.val (.bool true))] (by kernel_rfl) (by kernel_rfl) ?_
    simp only [List.take_succ_cons, List.take_zero, List.drop_succ_cons, List.drop_zero]
    repeat (first | (refine tree_det (by rfl) _ (by rfl) (fun W hW => by go_simp; (try simp (disch := omega) only [IntWalk.i64_in, Int.tdiv_eq_ediv_of_nonneg]); try rfl) ?_; simp only [Act.put, List.setIfInBounds_toArray, List.set_cons_succ, List.set_cons_zero]) | (refine tree_skip (by rfl) (by rfl) ?_; simp only [Act.put, List.setIfInBounds_toArray, List.set_cons_succ, List.set_cons_zero]))
    refine tree_val _ (by rfl) (by rfl) 82 _ (fun W hW => by go_simp; try rfl) (fun W hE hF => by exact hours_any h _ _ _ W h0 h9) ?_
    simp only [Act.put, List.setIfInBounds_toArray, List.set_cons_succ, List.set_cons_zero]
    repeat (first | (refine tree_det (by rfl) _ (by rfl) (fun W hW => by go_simp; (try simp (disch := omega) only [IntWalk.i64_in, Int.tdiv_eq_ediv_of_nonneg]); try rfl) ?_; simp only [Act.put, List.setIfInBounds_toArray, List.set_cons_succ, List.set_cons_zero]) | (refine tree_skip (by rfl) (by rfl) ?_; simp only [Act.put, List.setIfInBounds_toArray, List.set_cons_succ, List.set_cons_zero]))
    refine tree_val _ (by rfl) (by rfl) 107 _ (fun W hW => by go_simp; try rfl) (fun W hE hF => by have := has_any h.start start W; rw [HH.out] at this; exact this) ?_
    simp only [Act.put, List.setIfInBounds_toArray, List.set_cons_succ, List.set_cons_zero]
    repeat (first | (refine tree_det (by rfl) _ (by rfl) (fun W hW => by go_simp; (try simp (disch := omega) only [IntWalk.i64_in, Int.tdiv_eq_ediv_of_nonneg]); try rfl) ?_; simp only [Act.put, List.setIfInBounds_toArray, List.set_cons_succ, List.set_cons_zero]) | (refine tree_skip (by rfl) (by rfl) ?_; simp only [Act.put, List.setIfInBounds_toArray, List.set_cons_succ, List.set_cons_zero]))
    intro W hE hF
    obtain ⟨hc, hf⟩ := bcell hE.below
    have hzE := hE.size
    (try simp only [World.size_alloc] at hzE)
    have hB : Below w.heap.size w W := (by repeat (first | exact Below.refl _ _ | assumption | refine bgo ?_ hE.below | refine bgo ?_ (by assumption) | refine bgoAlloc ?_ _ | refine bgoDrew ?_ | refine bgoSet ?_ (by simp; try omega) _))
    have hblk : W.heap[w.heap.size + 1]? = some (.cells #[iv start, .slice os wet.length cs] 71 (0, 0)) := (hE.block _ (by simp) (by simp)).trans (heap_new1 _ _ _)
    have HBK := Lib.hid hblk
    have HB := Lib.hid hB
    go_wp2_with fail
    go_loopw [24] (fun i wr => ∃ k : Nat, k ≤ h.wet.length ∧ i = .int .i64 k ∧ (∀ j, j < k → listedAt h (start, wet) j = true) ∧ wr.heap[w.heap.size + 1]? = some (.cells #[iv start, .slice os wet.length cs] 71 (0, 0)) ∧ Below w.heap.size w wr)
      (fun i _ => h.wet.length - (intOf i).toNat)
    case atStart => exact ⟨0, Nat.zero_le _, rfl, fun j hj => by omega, HBK.out, HB.out⟩
    case round =>
      obtain ⟨k, hk, rfl, hno, hblk, hB⟩ := hrel
      have HN := Lib.hid hno
      clear hno hc hf hzE hE hF HBK HB
      by_cases hlt : k < h.wet.length
      · obtain ⟨b1, off1, rfl, hb1, hc0, hc1⟩ := PairsAt.cell (HW.out.below hB (Nat.le_refl _)) hlt
        obtain ⟨b2, off2, rfl, hb2, hc2⟩ := IntsAt.cell (HS.out.below hB (Nat.le_refl _)) (show k < wet.length by have := HLW.out; omega)
        have hlt2 : k < wet.length := by have := HLW.out; omega
        have hq : listedAt h (start, wet) k = inB wet[k] h.wet[k].1 h.wet[k].2 := by
          unfold listedAt
          rw [show h.wet.getD k (0, 0) = h.wet[k] from by simp [hlt], show wet.getD k 0 = wet[k] from by simp [hlt2]]
        generalize h.wet[k] = r at hc0 hc1 hq
        generalize wet[k] = x at hc2 hq
        have HB := Lib.hid hB
        have HK := Lib.hid hblk
        have hb6 : w.heap.size + 1 < wr.heap.size := (Array.getElem?_eq_some_iff.1 hblk).1
        have hb7 : w.heap.size + 1 < wr.heap.size + 1 := by omega
        have hb8 : b2 < wr.heap.size + 1 := by omega
        have hcx : wr.cell? ⟨w.heap.size + 1, 1, none⟩ = some (.slice (some ⟨b2, off2, none⟩) wet.length cs) := by simp [World.cell?, hblk]
        clear hB hblk
        cases hp : inB x r.1 r.2
        all_goals
          have HQ := Lib.hid (hq.trans hp)
          have HP := Lib.hid hp
          clear hq hp
          go_wp2_with fail
        · skip
          refine wp_region_rg 8 [] none [(6, Spec.val (.bool false))] (by kernel_rfl) (by kernel_rfl) ?_
          simp only [List.take_succ_cons, List.take_zero, List.drop_succ_cons, List.drop_zero]
          repeat (first | (refine tree_det (by rfl) _ (by rfl) (fun W hW => by go_simp; (try simp (disch := omega) only [IntWalk.i64_in, Int.tdiv_eq_ediv_of_nonneg]); try rfl) ?_; simp only [Act.put, List.setIfInBounds_toArray, List.set_cons_succ, List.set_cons_zero]) | (refine tree_skip (by rfl) (by rfl) ?_; simp only [Act.put, List.setIfInBounds_toArray, List.set_cons_succ, List.set_cons_zero]))
          refine tree_val _ (by rfl) (by rfl) 107 _ (fun W hW => by go_simp; try rfl) (fun W hE hF => by have := has_any r x W; rw [HP.out] at this; exact this) ?_
          simp only [Act.put, List.setIfInBounds_toArray, List.set_cons_succ, List.set_cons_zero]
          repeat (first | (refine tree_det (by rfl) _ (by rfl) (fun W hW => by go_simp; (try simp (disch := omega) only [IntWalk.i64_in, Int.tdiv_eq_ediv_of_nonneg]); try rfl) ?_; simp only [Act.put, List.setIfInBounds_toArray, List.set_cons_succ, List.set_cons_zero]) | (refine tree_skip (by rfl) (by rfl) ?_; simp only [Act.put, List.setIfInBounds_toArray, List.set_cons_succ, List.set_cons_zero]))
          intro W hE hF
          obtain ⟨hc, hf⟩ := bcell hE.below
          have hzE := hE.size
          (try simp only [World.size_alloc] at hzE)
          go_wp2_with fail
          go_returns
          refine ⟨?_, bgo (bgoAlloc HB.out _) hE.below⟩
          rw [HR.out]
          have : (List.range h.wet.length).all (listedAt h (start, wet)) = false := by
            rw [List.all_eq_false]
            exact ⟨k, by simpa using hlt, by rw [HQ.out]; simp⟩
          rw [this]; simp
        · skip
          refine wp_region_rg 8 [] none [(6, Spec.val (.bool true))] (by kernel_rfl) (by kernel_rfl) ?_
          simp only [List.take_succ_cons, List.take_zero, List.drop_succ_cons, List.drop_zero]
          repeat (first | (refine tree_det (by rfl) _ (by rfl) (fun W hW => by go_simp; (try simp (disch := omega) only [IntWalk.i64_in, Int.tdiv_eq_ediv_of_nonneg]); try rfl) ?_; simp only [Act.put, List.setIfInBounds_toArray, List.set_cons_succ, List.set_cons_zero]) | (refine tree_skip (by rfl) (by rfl) ?_; simp only [Act.put, List.setIfInBounds_toArray, List.set_cons_succ, List.set_cons_zero]))
          refine tree_val _ (by rfl) (by rfl) 107 _ (fun W hW => by go_simp; try rfl) (fun W hE hF => by have := has_any r x W; rw [HP.out] at this; exact this) ?_
          simp only [Act.put, List.setIfInBounds_toArray, List.set_cons_succ, List.set_cons_zero]
          repeat (first | (refine tree_det (by rfl) _ (by rfl) (fun W hW => by go_simp; (try simp (disch := omega) only [IntWalk.i64_in, Int.tdiv_eq_ediv_of_nonneg]); try rfl) ?_; simp only [Act.put, List.setIfInBounds_toArray, List.set_cons_succ, List.set_cons_zero]) | (refine tree_skip (by rfl) (by rfl) ?_; simp only [Act.put, List.setIfInBounds_toArray, List.set_cons_succ, List.set_cons_zero]))
          intro W hE hF
          obtain ⟨hc, hf⟩ := bcell hE.below
          have hzE := hE.size
          (try simp only [World.size_alloc] at hzE)
          go_wp2_with fail
          go_roundw
          case rel =>
            refine ⟨k + 1, by omega, by go_num, fun j hj => (by by_cases e : j = k; (subst e; exact HQ.out); exact HN.out j (by omega)), ?_, bgo (bgoAlloc HB.out _) hE.below⟩
            exact (hE.block _ (by simp; omega) (by simp)).trans ((Below.heap_alloc _ _ _ hb6).trans HK.out)
          case measure => simp [intOf]; omega
      · have hkl : k = h.wet.length := by omega
        go_wp2_with fail
        go_returns
        refine ⟨?_, hB⟩
        rw [HR.out]
        have : (List.range h.wet.length).all (listedAt h (start, wet)) = true := by
          rw [List.all_eq_true]
          intro j hj
          exact HN.out j (by have : j < h.wet.length := by simpa using hj
                             omega)
        rw [this]; simp

end Go.Proofs.Ytoibfafmnaooaaa

namespace Go.Proofs.Ytoibfafmnaooaaa
open Go.RowKit Go.RG Go.SL Go.Shelf Cou
set_option maxHeartbeats 400000
set_option maxRecDepth 10000

/-- A table of what spots cool to. -/
def CObj (cool : Int) (o : Obj) : Prop := ∃ es c, o = .map es c ∧ ∀ e ∈ es.toList, Entry cool e
theorem Cache.obj {W : World} {mb : Nat} {cool : Int} (h : Cache W mb cool) : ∃ o, W.heap[mb]? = some o ∧ CObj cool o := by
  obtain ⟨es, c, h1, h2⟩ := h; exact ⟨_, h1, es, c, rfl, h2⟩
theorem Cache.of_obj {W : World} {mb : Nat} {cool : Int} {o : Obj} (h : W.heap[mb]? = some o) (ho : CObj cool o) : Cache W mb cool := by
  obtain ⟨es, c, rfl, h2⟩ := ho; exact ⟨es, c, h, h2⟩
theorem Cache.noCells {W : World} {mb : Nat} {cool : Int} (h : Cache W mb cool) (cs : Array Value) (t : TypeId) (f : Nat × Nat) : W.heap[mb]? ≠ some (Obj.cells cs t f) := by
  obtain ⟨es, c, h1, _⟩ := h
  rw [h1]; intro e; cases e

/-- A new heap at work. -/
def workSpec (B : Nat) (h : HeapD) (a b c : Value) : RG.Spec :=
  ⟨fun _ v => ∃ wb : Nat, v = .pointer (some ⟨wb, 0, none⟩), fun _ v W => ∃ wb mb : Nat, v = .pointer (some ⟨wb, 0, none⟩) ∧ B ≤ wb ∧ B ≤ mb ∧ WorkAt W wb mb h a b c⟩

theorem work_stays {B B' : Nat} {h : HeapD} {a b c v : Value} {W W' : World} (hE : ExtM B (CObj h.cool) W W')
    (hs : ∃ wb mb : Nat, v = .pointer (some ⟨wb, 0, none⟩) ∧ B' ≤ wb ∧ B' ≤ mb ∧ WorkAt W wb mb h a b c) : ∃ wb mb : Nat, v = .pointer (some ⟨wb, 0, none⟩) ∧ B' ≤ wb ∧ B' ≤ mb ∧ WorkAt W' wb mb h a b c := by
  obtain ⟨wb, mb, rfl, h1, h2, h3⟩ := hs
  obtain ⟨o, ho, hc⟩ := h3.cache.obj
  obtain ⟨o', ho', hc'⟩ := hE.keeps mb o ho hc
  exact ⟨wb, mb, rfl, h1, h2, hE.cells _ _ _ _ h3.cells, Cache.of_obj ho' hc'⟩

/-- It returns a new slice and an error; nothing that was there has turned. -/
def POwnE (t : TypeId) (size n : Nat) (xs : List Value) (err : Int) (w : World) (e : Ending) (w' : World) : Prop :=
  ∃ v, e = .returned (.tuple #[v, .int .i64 err]) ∧ w'.ownsRow w.heap.size t size v n xs ∧ Below w.heap.size w w'

theorem play_err (h : HeapD) (wv tv xv' ws trv : Value) (start : Int) (wet turns : List Int) (w : World) (hw : PairsAt w wv h.wet) (ht : IntsAt w tv h.turns) (hx : TriplesAt w xv' h.readings) (hws : IntsAt w ws wet) (htr : IntsAt w trv turns)
    (err : Int) (he : playErr h (start, wet) turns = err) (he0 : err ≠ 0) :
    Calls Try.prog 40 #[hv h wv tv xv', .agg #[iv start, ws], trv] w (fun e w' => e = .returned (.tuple #[.slice none 0 0, iv err]) ∧ Below w.heap.size w w') := by
  obtain ⟨ow, cw, rfl⟩ := hw.open
  obtain ⟨ot, ct, rfl⟩ := ht.open
  obtain ⟨ox, cx, rfl⟩ := hx.open
  have HW := Lib.hid hw
  have HT := Lib.hid ht
  have HX := Lib.hid hx
  clear hw ht hx
  obtain ⟨os, cs, rfl⟩ := hws.open
  obtain ⟨oq, cq, rfl⟩ := htr.open
  have HS := Lib.hid hws
  have HQ := Lib.hid htr
  clear hws htr
  by_cases hf0 : fault h = 0
  case neg =>
    obtain rfl : fault h = err := by unfold playErr at he; rw [if_pos hf0] at he; exact he
    clear he
    generalize hff : fault h = f at *
    have HF := Lib.hid hff
    clear hff
    go_enter Try.func40, Try.ntmps40
    go_wp2_with fail
    (refine (check_any h _ _ _ _ ((HW.out.alloc _).alloc _) ((HT.out.alloc _).alloc _) ((HX.out.alloc _).alloc _)).mono ?_; rintro e w' ⟨rfl, hb⟩; obtain ⟨hc, hf⟩ := bcell hb; have hz0 : w.heap.size < w'.heap.size := (by have := hb.size; (try simp only [World.size_alloc] at this); omega); have hz1 : w.heap.size + 1 < w'.heap.size := (by have := hb.size; (try simp only [World.size_alloc] at this); omega))
    rw [HF.out]
    go_wp2_with fail
    go_returns
    exact ⟨by simp, (by repeat (first | exact Below.refl _ _ | assumption | refine bgo ?_ (by assumption) | refine bgoAlloc ?_ _ | refine bgoDrew ?_ | refine bgoSet ?_ (by simp; omega) _))⟩
  have hS := sound_of hf0
  obtain ⟨hl0, hl9, hwl⟩ : 0 ≤ h.last ∧ h.last ≤ 9 ∧ (h.wet.length : Int) = h.last + 1 := ⟨hS.last0, hS.last9, hS.wetLen⟩
  have HF := Lib.hid hf0
  have HSS := Lib.hid hS
  clear hf0 hS
  cases hl : listedT h (start, wet)
  · obtain rfl : 2 = err := by unfold playErr at he; rw [HF.out, hl] at he; simpa using he
    have HL := Lib.hid hl
    clear hl he
    go_enter Try.func40, Try.ntmps40
    go_wp2_with fail
    (refine (check_any h _ _ _ _ ((HW.out.alloc _).alloc _) ((HT.out.alloc _).alloc _) ((HX.out.alloc _).alloc _)).mono ?_; rintro e w' ⟨rfl, hb⟩; obtain ⟨hc, hf⟩ := bcell hb; have hz0 : w.heap.size < w'.heap.size := (by have := hb.size; (try simp only [World.size_alloc] at this); omega); have hz1 : w.heap.size + 1 < w'.heap.size := (by have := hb.size; (try simp only [World.size_alloc] at this); omega))
    rw [HF.out]
    have HB := Lib.hid (show Below w.heap.size w w' from (by repeat (first | exact Below.refl _ _ | assumption | refine bgo ?_ (by assumption) | refine bgoAlloc ?_ _ | refine bgoDrew ?_ | refine bgoSet ?_ (by simp; omega) _)))
    clear hb
    go_wp2_with fail
    refine (listed_any h _ _ _ _ start wet _ (HW.out.below HB.out (Nat.le_refl _)) (HS.out.below HB.out (Nat.le_refl _)) hl0 hl9 hwl).mono ?_
    rintro e w2 ⟨rfl, hb⟩
    rw [HL.out]
    go_wp2_with fail
    go_returns
    exact ⟨by simp, bgo HB.out hb⟩
  · cases htn : isTurns h.last turns
    case true => exact absurd (by unfold playErr at he; rw [HF.out, hl, htn] at he; simpa using he.symm) he0
    obtain rfl : 2 = err := by unfold playErr at he; rw [HF.out, hl, htn] at he; simpa using he
    have HL := Lib.hid hl
    have HTN := Lib.hid htn
    clear hl he htn
    go_enter Try.func40, Try.ntmps40
    go_wp2_with fail
    (refine (check_any h _ _ _ _ ((HW.out.alloc _).alloc _) ((HT.out.alloc _).alloc _) ((HX.out.alloc _).alloc _)).mono ?_; rintro e w' ⟨rfl, hb⟩; obtain ⟨hc, hf⟩ := bcell hb; have hz0 : w.heap.size < w'.heap.size := (by have := hb.size; (try simp only [World.size_alloc] at this); omega); have hz1 : w.heap.size + 1 < w'.heap.size := (by have := hb.size; (try simp only [World.size_alloc] at this); omega))
    rw [HF.out]
    have HB := Lib.hid (show Below w.heap.size w w' from (by repeat (first | exact Below.refl _ _ | assumption | refine bgo ?_ (by assumption) | refine bgoAlloc ?_ _ | refine bgoDrew ?_ | refine bgoSet ?_ (by simp; omega) _)))
    clear hb
    go_wp2_with fail
    refine (listed_any h _ _ _ _ start wet _ (HW.out.below HB.out (Nat.le_refl _)) (HS.out.below HB.out (Nat.le_refl _)) hl0 hl9 hwl).mono ?_
    rintro e w2 ⟨rfl, hb⟩
    rw [HL.out]
    obtain ⟨hc2, hf2⟩ := bcell hb
    have HB2 := Lib.hid (bgo HB.out hb)
    clear hb
    go_wp2_with fail
    refine (turnings_any h _ _ _ _ turns _ (HQ.out.below HB2.out (Nat.le_refl _)) hl0 hl9).mono ?_
    rintro e w3 ⟨rfl, hb⟩
    rw [HTN.out]
    go_wp2_with fail
    go_returns
    exact ⟨by simp, bgo HB2.out hb⟩

/-- All ten cells of a block are written. -/
theorem set_ten {w : World} {b : Nat} {t : TypeId} {fr : Nat × Nat} {a0 a1 a2 a3 a4 a5 a6 a7 a8 a9 : Value} (h : w.heap[b]? = some (.cells #[a0, a1, a2, a3, a4, a5, a6, a7, a8, a9] t fr)) (y0 y1 y2 y3 y4 y5 y6 y7 y8 y9 : Value) :
    ((((((((((w.setCell ⟨b, 0, none⟩ y0).setCell ⟨b, 1, none⟩ y1).setCell ⟨b, 2, none⟩ y2).setCell ⟨b, 3, none⟩ y3).setCell ⟨b, 4, none⟩ y4).setCell ⟨b, 5, none⟩ y5).setCell ⟨b, 6, none⟩ y6).setCell ⟨b, 7, none⟩ y7).setCell ⟨b, 8, none⟩ y8).setCell ⟨b, 9, none⟩ y9).heap[b]? = some (.cells #[y0, y1, y2, y3, y4, y5, y6, y7, y8, y9] t fr) := by
  have := (set_block (o := 9) (set_block (o := 8) (set_block (o := 7) (set_block (o := 6) (set_block (o := 5) (set_block (o := 4) (set_block (o := 3) (set_block (o := 2) (set_block (o := 1) (set_block (o := 0) h y0) y1) y2) y3) y4) y5) y6) y7) y8) y9)
  simpa using this

theorem hours_n (h : HeapD) (a b c : Value) (n : Nat) (w : World) (h0 : 0 ≤ h.last) (h9 : h.last ≤ 9) (hn : h.last + 1 = n) : Calls Try.prog 82 #[hv h a b c] w (PV (iv n) w) := by
  rw [← hn]; exact hours_any h a b c w h0 h9

theorem play_ok (h : HeapD) (wv tv xv' ws trv : Value) (start : Int) (wet turns : List Int) (w : World) (hw : PairsAt w wv h.wet) (ht : IntsAt w tv h.turns) (hx : TriplesAt w xv' h.readings) (hws : IntsAt w ws wet) (htr : IntsAt w trv turns)
    (hf0 : fault h = 0) (hl : listedT h (start, wet) = true) (htn : isTurns h.last turns = true) (n : Nat) (hn : h.last + 1 = n) :
    Calls Try.prog 40 #[hv h wv tv xv', .agg #[iv start, ws], trv] w (POwnE 3 1 n (intCells ((heats h (start, wet) turns).take n)) 0 w) := by
  obtain ⟨ow, cw, rfl⟩ := hw.open
  obtain ⟨ot, ct, rfl⟩ := ht.open
  obtain ⟨ox, cx, rfl⟩ := hx.open
  have HW := Lib.hid hw
  have HT := Lib.hid ht
  have HX := Lib.hid hx
  clear hw ht hx
  obtain ⟨os, cs, rfl⟩ := hws.open
  obtain ⟨oq, cq, rfl⟩ := htr.open
  have HS := Lib.hid hws
  have HQ := Lib.hid htr
  clear hws htr
  have hS := sound_of hf0
  obtain ⟨hl0, hl9, hwl⟩ : 0 ≤ h.last ∧ h.last ≤ 9 ∧ (h.wet.length : Int) = h.last + 1 := ⟨hS.last0, hS.last9, hS.wetLen⟩
  have hn10 : n ≤ 10 := by omega
  have HF := Lib.hid hf0
  have HSS := Lib.hid hS
  have HL := Lib.hid hl
  have HTN := Lib.hid htn
  obtain ⟨y0, y1, y2, y3, y4, y5, y6, y7, y8, y9, hy⟩ := ten_of (heatsTo_length h.size h.cool turns start wet wet.length)
  have HY : Hid (heats h (start, wet) turns = [y0, y1, y2, y3, y4, y5, y6, y7, y8, y9]) := Lib.hid hy
  clear hl htn hf0 hS hy
  rw [HY.out]
  go_enter Try.func40, Try.ntmps40
  go_wp2_with fail
  (refine (check_any h _ _ _ _ ((HW.out.alloc _).alloc _) ((HT.out.alloc _).alloc _) ((HX.out.alloc _).alloc _)).mono ?_; rintro e w' ⟨rfl, hb⟩; obtain ⟨hc, hf⟩ := bcell hb; have hz0 : w.heap.size < w'.heap.size := (by have := hb.size; (try simp only [World.size_alloc] at this); omega); have hz1 : w.heap.size + 1 < w'.heap.size := (by have := hb.size; (try simp only [World.size_alloc] at this); omega))
  rw [HF.out]
  have HB := Lib.hid (show Below w.heap.size w w' from (by repeat (first | exact Below.refl _ _ | assumption | refine bgo ?_ (by assumption) | refine bgoAlloc ?_ _ | refine bgoDrew ?_ | refine bgoSet ?_ (by simp; omega) _)))
  have HC := Lib.hid hb
  clear hb
  go_wp2_with fail
  refine (listed_any h _ _ _ _ start wet _ (HW.out.below HB.out (Nat.le_refl _)) (HS.out.below HB.out (Nat.le_refl _)) hl0 hl9 hwl).mono ?_
  rintro e w2 ⟨rfl, hb⟩
  rw [HL.out]
  obtain ⟨hc2, hf2⟩ := bcell hb
  have HB2 := Lib.hid (bgo HB.out hb)
  have HC2 := Lib.hid hb
  clear hb
  go_wp2_with fail
  refine (turnings_any h _ _ _ _ turns _ (HQ.out.below HB2.out (Nat.le_refl _)) hl0 hl9).mono ?_
  rintro e w3 ⟨rfl, hb⟩
  rw [HTN.out]
  have HB3 := Lib.hid (bgo HB2.out hb)
  have HC3 := Lib.hid (bgo (bgo HC.out HC2.out) hb)
  clear hb hc hf hc2 hf2
  have hA0 := (HC3.out.block w.heap.size (by simp; omega)).trans ((Below.heap_alloc _ _ _ (by simp)).trans (heap_new0 _ _))
  have hA1 := (HC3.out.block (w.heap.size + 1) (by simp)).trans (heap_new1 _ _ _)
  have hs0 : w.heap.size < w3.heap.size := (Array.getElem?_eq_some_iff.1 hA0).1
  have hs1 : w.heap.size + 1 < w3.heap.size := (Array.getElem?_eq_some_iff.1 hA1).1
  have hc0 : ∀ i, w3.cell? ⟨w.heap.size, i, none⟩ = (#[.int .i64 h.last, .int .i64 h.size, .int .i64 h.cool, .int .i64 h.die, .int .i64 h.burn, .int .i64 h.start.1, .int .i64 h.start.2, .slice ow h.wet.length cw, .slice ot h.turns.length ct, .slice ox h.readings.length cx] : Array Value)[i]? := fun i => by
    simp only [World.cell?, hA0]; rfl
  have hc1 : ∀ i, w3.cell? ⟨w.heap.size + 1, i, none⟩ = (#[iv start, .slice os wet.length cs] : Array Value)[i]? := fun i => by
    simp only [World.cell?, hA1]; rfl
  have HA0 := Lib.hid hA0
  have HA1 := Lib.hid hA1
  clear hA0 hA1
  go_wp2_with fail
  refine wp_region_rgM 6 (CObj h.cool) (some 4) [(1, workSpec w3.heap.size h (.slice ow h.wet.length cw) (.slice ot h.turns.length ct) (.slice ox h.readings.length cx)), (4, ⟨fun _ v => v = .agg #[iv y0, iv y1, iv y2, iv y3, iv y4, iv y5, iv y6, iv y7, iv y8, iv y9], fun _ _ _ => True⟩), (5, Spec.block w3.heap.size #[iv 0, iv 0, iv 0, iv 0, iv 0, iv 0, iv 0, iv 0, iv 0, iv 0] 127)] (by kernel_rfl) (by kernel_rfl) ?_
  simp only [List.take_succ_cons, List.take_zero, List.drop_succ_cons, List.drop_zero]
  repeat (refine tree_det (by rfl) _ (by rfl) (fun W hW => by go_simp; (try simp (disch := omega) only [IntWalk.i64_in, Int.tdiv_eq_ediv_of_nonneg]); try rfl) ?_; simp only [Act.put, List.setIfInBounds_toArray, List.set_cons_succ, List.set_cons_zero])
  refine tree_some _ (by rfl) (by rfl) (by exact ⟨.pointer (some ⟨0, 0, none⟩), 0, rfl⟩) (fun W hE hF => ?_) (fun v W W' hc hE => work_stays hE hc) (fun v hv => ?_)
  · have hE' : ExtM w3.heap.size (CObj h.cool) w3 W := hE
    have hs3 := hE'.size
    refine does_enter 71 #[hv h (.slice ow h.wet.length cw) (.slice ot h.turns.length ct) (.slice ox h.readings.length cx)] (by go_simp; try rfl) ?_
    refine (work_any h ow ot ox _ _ _ _ _ _ W).mono ?_
    rintro e W' ⟨wb, mb, rfl, h1, h2, h3, h4⟩
    exact ⟨_, rfl, ⟨wb, rfl⟩, ⟨wb, mb, rfl, by omega, by omega, h3⟩, Ext.of_below h4⟩
  obtain ⟨wb, rfl⟩ := hv
  simp only [Act.put, List.setIfInBounds_toArray, List.set_cons_succ, List.set_cons_zero]
  repeat (refine tree_det (by rfl) _ (by rfl) (fun W hW => by go_simp; (try simp (disch := omega) only [IntWalk.i64_in, Int.tdiv_eq_ediv_of_nonneg]); try rfl) ?_; simp only [Act.put, List.setIfInBounds_toArray, List.set_cons_succ, List.set_cons_zero])
  refine tree_some _ (by rfl) (by rfl) ⟨_, rfl⟩ (fun W hE hF => ?_) (fun _ _ _ _ _ => trivial) (fun v hv => ?_)
  · have hE' : Ext [] w3 W := hE
    obtain ⟨wb', mb, hwb, h1, h2, h3⟩ := hF _ (List.Mem.head _) (by kernel_rfl)
    cases hwb
    obtain ⟨k1, k2, k3, k4, k5⟩ := listed_of HSS.out HL.out
    refine does_enter 80 #[.pointer (some ⟨wb, 0, none⟩), .agg #[iv start, .slice os wet.length cs], .slice oq turns.length cq] (by go_simp; try rfl) ?_
    refine (play_any h _ _ _ wb mb start wet turns _ _ W h3 (HS.out.below (bgo HB3.out hE'.below) (Nat.le_refl _)) (HQ.out.below (bgo HB3.out hE'.below) (Nat.le_refl _)) k2 HSS.out.size0 HSS.out.size1 HSS.out.cool0 HSS.out.cool1 k3 k4 k5).mono ?_
    rintro e W' ⟨rfl, hcc, hE2⟩
    exact ⟨_, rfl, by rw [HY.out]; rfl, trivial, ExtM.of_one hE2 (by omega) h3.cache.noCells hcc.obj⟩
  obtain rfl : v = .agg #[iv y0, iv y1, iv y2, iv y3, iv y4, iv y5, iv y6, iv y7, iv y8, iv y9] := hv
  simp only [Act.put, List.setIfInBounds_toArray, List.set_cons_succ, List.set_cons_zero]
  refine tree_blockM w3.heap.size _ _ (by rfl) (Nat.le_refl _) (by rfl) (by simp) (fun W hW => by go_simp; try rfl) (fun b => ?_)
  simp only [Act.put, List.setIfInBounds_toArray, List.set_cons_succ, List.set_cons_zero]
  intro W hE hF
  obtain ⟨b', hb, hbB, hblk⟩ := hF _ (List.Mem.head _)
  cases hb
  have hEx : Ext [] w3 W := Kept.ext hE
  obtain ⟨hc, hf⟩ := bcell hEx.below
  have hfr := frozen_of_block hblk
  have HBK := Lib.hid hblk
  have HE := Lib.hid (bgo HB3.out hEx.below)
  have hwb := (Array.getElem?_eq_some_iff.1 hblk).1
  have hws : w.heap.size < W.heap.size := by omega
  have hg : ∀ i, W.cell? ⟨b, i, none⟩ = (#[iv 0, iv 0, iv 0, iv 0, iv 0, iv 0, iv 0, iv 0, iv 0, iv 0] : Array Value)[i]? := fun i => by
    simp only [World.cell?, hblk]; rfl
  have hnb : ¬ w.heap.size = b := by omega
  clear hblk hF hE hEx
  go_wp2_with fail
  refine (hours_n h _ _ _ n _ hl0 hl9 hn).mono ?_
  rintro e w4 ⟨rfl, hb⟩
  have hbk4 : w4.heap[b]? = some (.cells #[iv y0, iv y1, iv y2, iv y3, iv y4, iv y5, iv y6, iv y7, iv y8, iv y9] 127 (0, 0)) :=
    (hb.block b (by simpa [World.setCell] using hwb)).trans (set_ten HBK.out _ _ _ _ _ _ _ _ _ _)
  have HB4 : Hid (Below w.heap.size w w4) := Lib.hid (bgo (by repeat (first | refine bgoSet ?_ (by show w.heap.size ≤ b; omega) _ | exact HE.out)) hb)
  have HK4 := Lib.hid hbk4
  clear hb hbk4 hc hf hfr hg hc0 hc1
  have hg4 : ∀ i, w4.cell? ⟨b, i, none⟩ = (#[iv y0, iv y1, iv y2, iv y3, iv y4, iv y5, iv y6, iv y7, iv y8, iv y9] : Array Value)[i]? := fun i => by
    simp only [World.cell?, HK4.out]; rfl
  have hb4 : b < w4.heap.size := (Array.getElem?_eq_some_iff.1 HK4.out).1
  have hnI : (n : Int) ≤ 10 := by omega
  have hnI0 : (0 : Int) ≤ n := by omega
  go_wp2_with fail
  have hl10 : ([y0, y1, y2, y3, y4, y5, y6, y7, y8, y9].take n).length = n := by simp; omega
  have hsl : IntsAt w4 (.slice (some ⟨b, 0, none⟩) n 10) ([y0, y1, y2, y3, y4, y5, y6, y7, y8, y9].take n) := by
    have := SlAt.of_prefix n 10 HK4.out (by simpa using hn10) hn10 (by simp [maxLen])
    unfold IntsAt intCells
    rw [hl10, List.map_take]
    exact this
  have hcl := clone_any _ _ w4 hsl (by rw [hl10]; omega)
  rw [hl10] at hcl
  refine hcl.mono ?_
  rintro e w5 ⟨v, rfl, hown, hb⟩
  have HO := Lib.hid hown
  clear hown hcl hsl hg4
  go_wp2_with fail
  go_returns
  exact ⟨v, by simp, ⟨HO.out.1, HO.out.2.imp id (fun ⟨g, cap, cur, h1, h2, h3⟩ => ⟨g, cap, cur, h1, Nat.le_trans HB4.out.size h2, h3⟩)⟩, bgo HB4.out hb⟩

/-- **Play RETURNS THE HEATS, OR THE ERROR.** -/
theorem Play_any (h : HeapD) (wv tv xv' ws trv : Value) (start : Int) (wet turns : List Int) (w : World) (hw : PairsAt w wv h.wet) (ht : IntsAt w tv h.turns) (hx : TriplesAt w xv' h.readings) (hws : IntsAt w ws wet) (htr : IntsAt w trv turns) :
    Calls Try.prog 40 #[hv h wv tv xv', .agg #[iv start, ws], trv] w (POwnE 3 1 (playOut h (start, wet) turns).length (intCells (playOut h (start, wet) turns)) (playErr h (start, wet) turns) w) := by
  by_cases he : playErr h (start, wet) turns = 0
  · have hf0 : fault h = 0 := by
      apply Classical.byContradiction
      intro hf; unfold playErr at he; rw [if_pos hf] at he; exact hf he
    have hl : listedT h (start, wet) = true ∧ isTurns h.last turns = true := by
      unfold playErr at he
      rw [if_neg (by rw [hf0]; simp)] at he
      split at he
      · omega
      · rename_i hn; simpa using hn
    have hS := sound_of hf0
    have hl0 := hS.last0
    have hl9 := hS.last9
    have hlen : (playOut h (start, wet) turns).length = (h.last + 1).toNat := by
      unfold playOut
      rw [if_pos he, List.length_take, heats, heatsTo_length]
      omega
    rw [he, hlen, show playOut h (start, wet) turns = (heats h (start, wet) turns).take (h.last + 1).toNat from if_pos he]
    exact play_ok h wv tv xv' ws trv start wet turns w hw ht hx hws htr hf0 hl.1 hl.2 _ (by omega)
  · refine (play_err h wv tv xv' ws trv start wet turns w hw ht hx hws htr _ rfl he).mono ?_
    rintro e w' ⟨rfl, hb⟩
    rw [show playOut h (start, wet) turns = [] from if_neg he]
    exact ⟨.slice none 0 0, rfl, ⟨rfl, .inl ⟨rfl, rfl⟩⟩, hb⟩

end Go.Proofs.Ytoibfafmnaooaaa

namespace Go.Proofs.Ytoibfafmnaooaaa
open Go.RowKit Go.RG Go.SL Go.Shelf Cou
set_option maxHeartbeats 400000
set_option maxRecDepth 10000

theorem truth1_any (h : HeapD) (hS : Sound h) (x : Rdg) (hx : x ∈ h.readings) (b : Nat) (l : List Int) (h10 : l.length = 10) (hl : ∀ n ∈ l, 0 ≤ n ∧ n ≤ 900) (W : World) (hb : W.heap[b]? = some (.cells (intCells l).toArray 127 (0, 0))) :
    Calls Try.prog 94 #[xv x, .pointer (some ⟨b, 0, none⟩)] W (PV (.bool (rightR x l)) W) := by
  obtain ⟨y0, y1, y2, y3, y4, y5, y6, y7, y8, y9, rfl⟩ := ten_of h10
  have hlt := (Array.getElem?_eq_some_iff.1 hb).1
  have hc0 : ∀ i, W.cell? ⟨b, i, none⟩ = (#[iv y0, iv y1, iv y2, iv y3, iv y4, iv y5, iv y6, iv y7, iv y8, iv y9] : Array Value)[i]? := fun i => by
    simp only [World.cell?, hb]; rfl
  obtain ⟨⟨k1, k2⟩, ⟨k3, k4⟩, k5, k6⟩ := hS.rdg x hx
  have k7 := hS.last9
  have HR := Lib.hid (fun W => right_any x y0 y1 y2 y3 y4 y5 y6 y7 y8 y9 W k1 (by omega) k3 k4 k5 k6 (fun n hn => by have := hl n hn; omega))
  clear hb hl hS hx
  generalize hrr : rightR x [y0, y1, y2, y3, y4, y5, y6, y7, y8, y9] = q at HR
  clear hrr
  go_enter Try.func94, Try.ntmps94
  go_wp2_with fail
  refine (HR.out _).mono ?_
  rintro e w' ⟨rfl, hb⟩
  obtain ⟨hc, hf⟩ := bcell hb
  go_wp2_with fail
  go_returns
  exact ⟨by simp, bgo (bgoAlloc (Below.refl _ _) _) hb⟩

def proveR (h : HeapD) (t : Int × List Int) : Bool := decide (fault h = 0) && isTruth h t

theorem ProveTruth_any (h : HeapD) (wv tv xv' ws : Value) (start : Int) (wet : List Int) (w : World) (hw : PairsAt w wv h.wet) (ht : IntsAt w tv h.turns) (hx : TriplesAt w xv' h.readings) (hws : IntsAt w ws wet) :
    Calls Try.prog 55 #[hv h wv tv xv', .agg #[iv start, ws]] w (PV (.bool (proveR h (start, wet))) w) := by
  obtain ⟨ow, cw, rfl⟩ := hw.open
  obtain ⟨ot, ct, rfl⟩ := ht.open
  obtain ⟨ox, cx, rfl⟩ := hx.open
  have HW := Lib.hid hw
  have HT := Lib.hid ht
  have HX := Lib.hid hx
  clear hw ht hx
  obtain ⟨os, cs, rfl⟩ := hws.open
  have HS := Lib.hid hws
  clear hws
  by_cases hf0 : fault h = 0
  case neg =>
    have hres : proveR h (start, wet) = false := by simp [proveR, hf0]
    rw [hres]
    generalize hff : fault h = f at *
    have HF := Lib.hid hff
    clear hff hres
    go_enter Try.func55, Try.ntmps55
    go_wp2_with fail
    (refine (check_any h _ _ _ _ ((HW.out.alloc _).alloc _) ((HT.out.alloc _).alloc _) ((HX.out.alloc _).alloc _)).mono ?_; rintro e w' ⟨rfl, hb⟩; obtain ⟨hc, hf⟩ := bcell hb; have hz0 : w.heap.size < w'.heap.size := (by have := hb.size; (try simp only [World.size_alloc] at this); omega); have hz1 : w.heap.size + 1 < w'.heap.size := (by have := hb.size; (try simp only [World.size_alloc] at this); omega))
    rw [HF.out]
    go_wp2_with fail
    go_returns
    exact ⟨by simp, (by repeat (first | exact Below.refl _ _ | assumption | refine bgo ?_ (by assumption) | refine bgoAlloc ?_ _ | refine bgoDrew ?_ | refine bgoSet ?_ (by simp; omega) _))⟩
  have hS := sound_of hf0
  obtain ⟨hl0, hl9, hwl⟩ : 0 ≤ h.last ∧ h.last ≤ 9 ∧ (h.wet.length : Int) = h.last + 1 := ⟨hS.last0, hS.last9, hS.wetLen⟩
  have HF := Lib.hid hf0
  have HSS := Lib.hid hS
  clear hf0 hS
  cases hl : listedT h (start, wet)
  · have hres : proveR h (start, wet) = false := by simp [proveR, isTruth, hl]
    rw [hres]
    have HL := Lib.hid hl
    clear hl hres
    go_enter Try.func55, Try.ntmps55
    go_wp2_with fail
    (refine (check_any h _ _ _ _ ((HW.out.alloc _).alloc _) ((HT.out.alloc _).alloc _) ((HX.out.alloc _).alloc _)).mono ?_; rintro e w' ⟨rfl, hb⟩; obtain ⟨hc, hf⟩ := bcell hb; have hz0 : w.heap.size < w'.heap.size := (by have := hb.size; (try simp only [World.size_alloc] at this); omega); have hz1 : w.heap.size + 1 < w'.heap.size := (by have := hb.size; (try simp only [World.size_alloc] at this); omega))
    rw [HF.out]
    have HB := Lib.hid (show Below w.heap.size w w' from (by repeat (first | exact Below.refl _ _ | assumption | refine bgo ?_ (by assumption) | refine bgoAlloc ?_ _ | refine bgoDrew ?_ | refine bgoSet ?_ (by simp; omega) _)))
    clear hb
    go_wp2_with fail
    refine (listed_any h _ _ _ _ start wet _ (HW.out.below HB.out (Nat.le_refl _)) (HS.out.below HB.out (Nat.le_refl _)) hl0 hl9 hwl).mono ?_
    rintro e w2 ⟨rfl, hb⟩
    rw [HL.out]
    go_wp2_with fail
    go_returns
    exact ⟨by simp, bgo HB.out hb⟩
  · obtain ⟨y0, y1, y2, y3, y4, y5, y6, y7, y8, y9, hy⟩ := ten_of (heatsTo_length h.size h.cool h.turns start wet wet.length)
    have HY : Hid (heats h (start, wet) h.turns = [y0, y1, y2, y3, y4, y5, y6, y7, y8, y9]) := Lib.hid hy
    have hres : proveR h (start, wet) = h.readings.all (rightR · [y0, y1, y2, y3, y4, y5, y6, y7, y8, y9]) := by simp [proveR, isTruth, hl, HF.out, HY.out]
    rw [hres]
    have HL := Lib.hid hl
    clear hl hres hy
    go_enter Try.func55, Try.ntmps55
    go_wp2_with fail
    (refine (check_any h _ _ _ _ ((HW.out.alloc _).alloc _) ((HT.out.alloc _).alloc _) ((HX.out.alloc _).alloc _)).mono ?_; rintro e w' ⟨rfl, hb⟩; obtain ⟨hc, hf⟩ := bcell hb; have hz0 : w.heap.size < w'.heap.size := (by have := hb.size; (try simp only [World.size_alloc] at this); omega); have hz1 : w.heap.size + 1 < w'.heap.size := (by have := hb.size; (try simp only [World.size_alloc] at this); omega))
    rw [HF.out]
    have HB := Lib.hid (show Below w.heap.size w w' from (by repeat (first | exact Below.refl _ _ | assumption | refine bgo ?_ (by assumption) | refine bgoAlloc ?_ _ | refine bgoDrew ?_ | refine bgoSet ?_ (by simp; omega) _)))
    have HC := Lib.hid hb
    clear hb
    go_wp2_with fail
    refine (listed_any h _ _ _ _ start wet _ (HW.out.below HB.out (Nat.le_refl _)) (HS.out.below HB.out (Nat.le_refl _)) hl0 hl9 hwl).mono ?_
    rintro e w3 ⟨rfl, hb⟩
    rw [HL.out]
    have HB3 := Lib.hid (bgo HB.out hb)
    have HC3 := Lib.hid (bgo HC.out hb)
    clear hb hc hf
    have hA0 := (HC3.out.block w.heap.size (by simp; omega)).trans ((Below.heap_alloc _ _ _ (by simp)).trans (heap_new0 _ _))
    have hA1 := (HC3.out.block (w.heap.size + 1) (by simp)).trans (heap_new1 _ _ _)
    have hs0 : w.heap.size < w3.heap.size := (Array.getElem?_eq_some_iff.1 hA0).1
    have hs1 : w.heap.size + 1 < w3.heap.size := (Array.getElem?_eq_some_iff.1 hA1).1
    have hc0 : ∀ i, w3.cell? ⟨w.heap.size, i, none⟩ = (#[.int .i64 h.last, .int .i64 h.size, .int .i64 h.cool, .int .i64 h.die, .int .i64 h.burn, .int .i64 h.start.1, .int .i64 h.start.2, .slice ow h.wet.length cw, .slice ot h.turns.length ct, .slice ox h.readings.length cx] : Array Value)[i]? := fun i => by
      simp only [World.cell?, hA0]; rfl
    have hc1 : ∀ i, w3.cell? ⟨w.heap.size + 1, i, none⟩ = (#[iv start, .slice os wet.length cs] : Array Value)[i]? := fun i => by
      simp only [World.cell?, hA1]; rfl
    have HA0 := Lib.hid hA0
    have HA1 := Lib.hid hA1
    clear hA0 hA1
    go_wp2_with fail
    refine wp_region_rgM 7 (CObj h.cool) (some 5) [(1, workSpec w3.heap.size h (.slice ow h.wet.length cw) (.slice ot h.turns.length ct) (.slice ox h.readings.length cx)), (5, ⟨fun _ v => v = .agg #[iv y0, iv y1, iv y2, iv y3, iv y4, iv y5, iv y6, iv y7, iv y8, iv y9], fun _ _ _ => True⟩), (6, Spec.block w3.heap.size #[iv 0, iv 0, iv 0, iv 0, iv 0, iv 0, iv 0, iv 0, iv 0, iv 0] 127)] (by kernel_rfl) (by kernel_rfl) ?_
    simp only [List.take_succ_cons, List.take_zero, List.drop_succ_cons, List.drop_zero]
    repeat (refine tree_det (by rfl) _ (by rfl) (fun W hW => by go_simp; (try simp (disch := omega) only [IntWalk.i64_in, Int.tdiv_eq_ediv_of_nonneg]); try rfl) ?_; simp only [Act.put, List.setIfInBounds_toArray, List.set_cons_succ, List.set_cons_zero])
    refine tree_some _ (by rfl) (by rfl) (by exact ⟨.pointer (some ⟨0, 0, none⟩), 0, rfl⟩) (fun W hE hF => ?_) (fun v W W' hc hE => work_stays hE hc) (fun v hv => ?_)
    · have hE' : ExtM w3.heap.size (CObj h.cool) w3 W := hE
      have hs3 := hE'.size
      refine does_enter 71 #[hv h (.slice ow h.wet.length cw) (.slice ot h.turns.length ct) (.slice ox h.readings.length cx)] (by go_simp; try rfl) ?_
      refine (work_any h ow ot ox _ _ _ _ _ _ W).mono ?_
      rintro e W' ⟨wb, mb, rfl, h1, h2, h3, h4⟩
      exact ⟨_, rfl, ⟨wb, rfl⟩, ⟨wb, mb, rfl, by omega, by omega, h3⟩, Ext.of_below h4⟩
    obtain ⟨wb, rfl⟩ := hv
    simp only [Act.put, List.setIfInBounds_toArray, List.set_cons_succ, List.set_cons_zero]
    repeat (refine tree_det (by rfl) _ (by rfl) (fun W hW => by go_simp; (try simp (disch := omega) only [IntWalk.i64_in, Int.tdiv_eq_ediv_of_nonneg]); try rfl) ?_; simp only [Act.put, List.setIfInBounds_toArray, List.set_cons_succ, List.set_cons_zero])
    refine tree_some _ (by rfl) (by rfl) ⟨_, rfl⟩ (fun W hE hF => ?_) (fun _ _ _ _ _ => trivial) (fun v hv => ?_)
    · have hE' : Ext [] w3 W := hE
      obtain ⟨wb', mb, hwb, h1, h2, h3⟩ := hF _ (List.Mem.head _) (by kernel_rfl)
      cases hwb
      obtain ⟨k1, k2, k3, k4, k5⟩ := listed_of HSS.out HL.out
      refine does_enter 80 #[.pointer (some ⟨wb, 0, none⟩), .agg #[iv start, .slice os wet.length cs], .slice ot h.turns.length ct] (by go_simp; try rfl) ?_
      refine (play_any h _ _ _ wb mb start wet h.turns _ _ W h3 (HS.out.below (bgo HB3.out hE'.below) (Nat.le_refl _)) (HT.out.below (bgo HB3.out hE'.below) (Nat.le_refl _)) k2 HSS.out.size0 HSS.out.size1 HSS.out.cool0 HSS.out.cool1 k3 k4 k5).mono ?_
      rintro e W' ⟨rfl, hcc, hE2⟩
      exact ⟨_, rfl, by rw [HY.out]; rfl, trivial, ExtM.of_one hE2 (by omega) h3.cache.noCells hcc.obj⟩
    obtain rfl : v = .agg #[iv y0, iv y1, iv y2, iv y3, iv y4, iv y5, iv y6, iv y7, iv y8, iv y9] := hv
    simp only [Act.put, List.setIfInBounds_toArray, List.set_cons_succ, List.set_cons_zero]
    refine tree_blockM w3.heap.size _ _ (by rfl) (Nat.le_refl _) (by rfl) (by simp) (fun W hW => by go_simp; try rfl) (fun b => ?_)
    simp only [Act.put, List.setIfInBounds_toArray, List.set_cons_succ, List.set_cons_zero]
    intro W hE hF
    obtain ⟨b', hb, hbB, hblk⟩ := hF _ (List.Mem.head _)
    cases hb
    have hEx : Ext [] w3 W := Kept.ext hE
    obtain ⟨hc, hf⟩ := bcell hEx.below
    have hfr := frozen_of_block hblk
    have HBK := Lib.hid hblk
    have HE := Lib.hid (bgo HB3.out hEx.below)
    have hwb := (Array.getElem?_eq_some_iff.1 hblk).1
    have hws : w.heap.size < W.heap.size := by omega
    have hg : ∀ i, W.cell? ⟨b, i, none⟩ = (#[iv 0, iv 0, iv 0, iv 0, iv 0, iv 0, iv 0, iv 0, iv 0, iv 0] : Array Value)[i]? := fun i => by
      simp only [World.cell?, hblk]; rfl
    have hnb : ¬ w.heap.size = b := by omega
    clear hblk hF hE hEx
    go_wp2_with fail
    have HB4 : Hid (Below w.heap.size w _) := Lib.hid (show Below w.heap.size w ((((((((((W.setCell ⟨b, 0, none⟩ (iv y0)).setCell ⟨b, 1, none⟩ (iv y1)).setCell ⟨b, 2, none⟩ (iv y2)).setCell ⟨b, 3, none⟩ (iv y3)).setCell ⟨b, 4, none⟩ (iv y4)).setCell ⟨b, 5, none⟩ (iv y5)).setCell ⟨b, 6, none⟩ (iv y6)).setCell ⟨b, 7, none⟩ (iv y7)).setCell ⟨b, 8, none⟩ (iv y8)).setCell ⟨b, 9, none⟩ (iv y9)) from by repeat (first | refine bgoSet ?_ (by show w.heap.size ≤ b; omega) _ | exact HE.out))
    have hK4 := set_ten HBK.out (iv y0) (iv y1) (iv y2) (iv y3) (iv y4) (iv y5) (iv y6) (iv y7) (iv y8) (iv y9)
    refine (allX_pure h.readings (.slice ox h.readings.length cx) 94 #[] #[.pointer (some ⟨b, 0, none⟩)] (rightR · [y0, y1, y2, y3, y4, y5, y6, y7, y8, y9]) _ (HX.out.below HB4.out (Nat.le_refl _)) (enters_of Try.func94 (by kernel_rfl) rfl) ?_).mono ?_
    · intro x hx W' hW'
      refine truth1_any h HSS.out x hx b _ rfl ?_ W' ((hW'.block b ?_).trans hK4)
      · obtain ⟨k1, k2, k3, k4, k5⟩ := listed_of HSS.out HL.out
        rw [← HY.out]
        exact heats_bd h.turns HSS.out.size0 HSS.out.size1 HSS.out.cool0 HSS.out.cool1 k3 k4 k5 k2
      · simpa [World.setCell] using hwb
    · rintro e w5 ⟨rfl, hb⟩
      have HB5 := Lib.hid (bgo HB4.out hb)
      clear hb
      go_wp2_with fail
      go_returns
      exact ⟨by simp, HB5.out⟩

end Go.Proofs.Ytoibfafmnaooaaa

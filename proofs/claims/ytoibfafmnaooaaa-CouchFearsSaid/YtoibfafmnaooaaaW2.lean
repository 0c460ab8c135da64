/-
  Contracts of slices.IndexFunc, slices.ContainsFunc and couch.all at the element types of package couch: over whatever function value, told by what each call of it does.
-/
import Derived.WalkKit
import Derived.WalkLawsBesides
import Derived.WalkSpells
import Derived.Outline
import Derived.Handy
import Derived.KernelRfl
import Derived.Lib.Hide
import Derived.Shelf.Abstract
import Derived.Test.YtoibfafmnaooaaaW1
namespace Go.Proofs.Ytoibfafmnaooaaa
open Go.RowKit Go.RG Go.SL Go.Shelf Cou
set_option maxHeartbeats 400000

theorem idxR (l : List Rng) (v : Value) (fid : Nat) (fst caps : Array Value) (p : Nat → Bool) (I : Nat → World → Prop) (w : World) (eg : ∀ args w, (callFunc fid args).run Try.prog w = .ok (.enter fid args) w)
    (hsl : ∀ k W, I k W → PairsAt W v l)
    (hcall : ∀ k (hk : k < l.length) W, (∀ j, j < k → p j = false) → I k W → Calls Try.prog fid (fst.push (rv l[k]) ++ caps) W (fun e W' => e = .returned (.bool (p k)) ∧ I (k + 1) W')) (h0 : I 0 w) :
    Calls Try.prog 135 #[v, .func (.func fid) fst caps] w (IdxPost l.length p I (fun k => iv k) (iv (-1))) := by
  have hlen := (hsl 0 w h0).len
  obtain ⟨o, c, rfl⟩ := (hsl 0 w h0).open
  have HC := Lib.hid hcall
  have HS := Lib.hid hsl
  clear hcall hsl
  go_enter Try.func135, Try.ntmps135
  go_wp2
  go_loopw [4, 5, 8] (fun _ _ i wr => ∃ k : Nat, k ≤ l.length ∧ i = .int .i64 k ∧ (∀ j, j < k → p j = false) ∧ I k wr) (fun _ _ i _ => l.length - (intOf i).toNat)
  case atStart => exact ⟨0, Nat.zero_le _, rfl, fun j hj => by omega, h0⟩
  case round =>
    obtain ⟨k, hk, rfl, hno, hI⟩ := hrel
    by_cases hlt : k < l.length
    · obtain ⟨b, off, rfl, hb, hc0, hc1⟩ := PairsAt.cell (HS.out k wr hI) hlt
      have hC := HC.out k hlt wr hno hI
      have HN := Lib.hid hno
      clear hno
      go_wp2_with fail
      refine hC.mono ?_
      rintro e W1 ⟨rfl, hI1⟩
      have HI := Lib.hid hI1
      clear hI1 hI hC
      cases hp : p k
      · go_wp2_with fail
        go_roundw
        case rel => exact ⟨k + 1, by omega, by go_num, fun j hj => (by by_cases e : j = k; (subst e; exact hp); exact HN.out j (by omega)), HI.out⟩
        case measure => simp [intOf]; omega
      · go_wp2_with fail
        go_returns
        exact ⟨k, by omega, HN.out, .inl ⟨hlt, hp, by simp, HI.out⟩⟩
    · have hkl : k = l.length := by omega
      have HN := Lib.hid hno
      clear hno
      go_wp2_with fail
      go_returns
      exact ⟨k, by omega, HN.out, .inr ⟨hkl, by simp, by subst hkl; exact hI⟩⟩

theorem idxI (l : List Int) (v : Value) (fid : Nat) (fst caps : Array Value) (p : Nat → Bool) (I : Nat → World → Prop) (w : World) (eg : ∀ args w, (callFunc fid args).run Try.prog w = .ok (.enter fid args) w)
    (hsl : ∀ k W, I k W → IntsAt W v l)
    (hcall : ∀ k (hk : k < l.length) W, (∀ j, j < k → p j = false) → I k W → Calls Try.prog fid (fst.push (iv l[k]) ++ caps) W (fun e W' => e = .returned (.bool (p k)) ∧ I (k + 1) W')) (h0 : I 0 w) :
    Calls Try.prog 136 #[v, .func (.func fid) fst caps] w (IdxPost l.length p I (fun k => iv k) (iv (-1))) := by
  have hlen := (hsl 0 w h0).len
  obtain ⟨o, c, rfl⟩ := (hsl 0 w h0).open
  have HC := Lib.hid hcall
  have HS := Lib.hid hsl
  clear hcall hsl
  go_enter Try.func136, Try.ntmps136
  go_wp2
  go_loopw [4, 5, 8] (fun _ _ i wr => ∃ k : Nat, k ≤ l.length ∧ i = .int .i64 k ∧ (∀ j, j < k → p j = false) ∧ I k wr) (fun _ _ i _ => l.length - (intOf i).toNat)
  case atStart => exact ⟨0, Nat.zero_le _, rfl, fun j hj => by omega, h0⟩
  case round =>
    obtain ⟨k, hk, rfl, hno, hI⟩ := hrel
    by_cases hlt : k < l.length
    · obtain ⟨b, off, rfl, hb, hc0⟩ := IntsAt.cell (HS.out k wr hI) hlt
      have hC := HC.out k hlt wr hno hI
      have HN := Lib.hid hno
      clear hno
      go_wp2_with fail
      refine hC.mono ?_
      rintro e W1 ⟨rfl, hI1⟩
      have HI := Lib.hid hI1
      clear hI1 hI hC
      cases hp : p k
      · go_wp2_with fail
        go_roundw
        case rel => exact ⟨k + 1, by omega, by go_num, fun j hj => (by by_cases e : j = k; (subst e; exact hp); exact HN.out j (by omega)), HI.out⟩
        case measure => simp [intOf]; omega
      · go_wp2_with fail
        go_returns
        exact ⟨k, by omega, HN.out, .inl ⟨hlt, hp, by simp, HI.out⟩⟩
    · have hkl : k = l.length := by omega
      have HN := Lib.hid hno
      clear hno
      go_wp2_with fail
      go_returns
      exact ⟨k, by omega, HN.out, .inr ⟨hkl, by simp, by subst hkl; exact hI⟩⟩

theorem idxX (l : List Rdg) (v : Value) (fid : Nat) (fst caps : Array Value) (p : Nat → Bool) (I : Nat → World → Prop) (w : World) (eg : ∀ args w, (callFunc fid args).run Try.prog w = .ok (.enter fid args) w)
    (hsl : ∀ k W, I k W → TriplesAt W v l)
    (hcall : ∀ k (hk : k < l.length) W, (∀ j, j < k → p j = false) → I k W → Calls Try.prog fid (fst.push (xv l[k]) ++ caps) W (fun e W' => e = .returned (.bool (p k)) ∧ I (k + 1) W')) (h0 : I 0 w) :
    Calls Try.prog 134 #[v, .func (.func fid) fst caps] w (IdxPost l.length p I (fun k => iv k) (iv (-1))) := by
  have hlen := (hsl 0 w h0).len
  obtain ⟨o, c, rfl⟩ := (hsl 0 w h0).open
  have HC := Lib.hid hcall
  have HS := Lib.hid hsl
  clear hcall hsl
  go_enter Try.func134, Try.ntmps134
  go_wp2
  go_loopw [4, 5, 8] (fun _ _ i wr => ∃ k : Nat, k ≤ l.length ∧ i = .int .i64 k ∧ (∀ j, j < k → p j = false) ∧ I k wr) (fun _ _ i _ => l.length - (intOf i).toNat)
  case atStart => exact ⟨0, Nat.zero_le _, rfl, fun j hj => by omega, h0⟩
  case round =>
    obtain ⟨k, hk, rfl, hno, hI⟩ := hrel
    by_cases hlt : k < l.length
    · obtain ⟨b, off, rfl, hb, hc0, hc1, hc2⟩ := TriplesAt.cell (HS.out k wr hI) hlt
      have hC := HC.out k hlt wr hno hI
      have HN := Lib.hid hno
      clear hno
      go_wp2_with fail
      refine hC.mono ?_
      rintro e W1 ⟨rfl, hI1⟩
      have HI := Lib.hid hI1
      clear hI1 hI hC
      cases hp : p k
      · go_wp2_with fail
        go_roundw
        case rel => exact ⟨k + 1, by omega, by go_num, fun j hj => (by by_cases e : j = k; (subst e; exact hp); exact HN.out j (by omega)), HI.out⟩
        case measure => simp [intOf]; omega
      · go_wp2_with fail
        go_returns
        exact ⟨k, by omega, HN.out, .inl ⟨hlt, hp, by simp, HI.out⟩⟩
    · have hkl : k = l.length := by omega
      have HN := Lib.hid hno
      clear hno
      go_wp2_with fail
      go_returns
      exact ⟨k, by omega, HN.out, .inr ⟨hkl, by simp, by subst hkl; exact hI⟩⟩

theorem contR (l : List Rng) (v : Value) (fid : Nat) (fst caps : Array Value) (p : Nat → Bool) (I : Nat → World → Prop) (w : World) (eg : ∀ args w, (callFunc fid args).run Try.prog w = .ok (.enter fid args) w)
    (hsl : ∀ k W, I k W → PairsAt W v l)
    (hcall : ∀ k (hk : k < l.length) W, (∀ j, j < k → p j = false) → I k W → Calls Try.prog fid (fst.push (rv l[k]) ++ caps) W (fun e W' => e = .returned (.bool (p k)) ∧ I (k + 1) W')) (h0 : I 0 w) :
    Calls Try.prog 124 #[v, .func (.func fid) fst caps] w (IdxPost l.length p I (fun _ => .bool true) (.bool false)) := by
  have HI := Lib.hid (idxR l v fid fst caps p I w eg hsl hcall h0)
  have hlen := (hsl 0 w h0).len
  clear hsl hcall h0 eg
  go_enter Try.func124, Try.ntmps124
  go_wp2_with fail
  refine HI.out.mono ?_
  clear HI
  rintro e W' ⟨k, hk, hno, ⟨hlt, hp, rfl, hI⟩ | ⟨hkl, rfl, hI⟩⟩
  · have HN := Lib.hid (And.intro hno (And.intro hp hI))
    clear hno hp hI
    go_wp2_with fail
    go_returns
    exact ⟨k, hk, HN.out.1, .inl ⟨hlt, HN.out.2.1, by simp, HN.out.2.2⟩⟩
  · have HN := Lib.hid (And.intro hno (And.intro hkl hI))
    clear hno hkl hI
    go_wp2_with fail
    go_returns
    exact ⟨k, hk, HN.out.1, .inr ⟨HN.out.2.1, by simp, HN.out.2.1 ▸ HN.out.2.2⟩⟩

theorem contI (l : List Int) (v : Value) (fid : Nat) (fst caps : Array Value) (p : Nat → Bool) (I : Nat → World → Prop) (w : World) (eg : ∀ args w, (callFunc fid args).run Try.prog w = .ok (.enter fid args) w)
    (hsl : ∀ k W, I k W → IntsAt W v l)
    (hcall : ∀ k (hk : k < l.length) W, (∀ j, j < k → p j = false) → I k W → Calls Try.prog fid (fst.push (iv l[k]) ++ caps) W (fun e W' => e = .returned (.bool (p k)) ∧ I (k + 1) W')) (h0 : I 0 w) :
    Calls Try.prog 127 #[v, .func (.func fid) fst caps] w (IdxPost l.length p I (fun _ => .bool true) (.bool false)) := by
  have HI := Lib.hid (idxI l v fid fst caps p I w eg hsl hcall h0)
  have hlen := (hsl 0 w h0).len
  clear hsl hcall h0 eg
  go_enter Try.func127, Try.ntmps127
  go_wp2_with fail
  refine HI.out.mono ?_
  clear HI
  rintro e W' ⟨k, hk, hno, ⟨hlt, hp, rfl, hI⟩ | ⟨hkl, rfl, hI⟩⟩
  · have HN := Lib.hid (And.intro hno (And.intro hp hI))
    clear hno hp hI
    go_wp2_with fail
    go_returns
    exact ⟨k, hk, HN.out.1, .inl ⟨hlt, HN.out.2.1, by simp, HN.out.2.2⟩⟩
  · have HN := Lib.hid (And.intro hno (And.intro hkl hI))
    clear hno hkl hI
    go_wp2_with fail
    go_returns
    exact ⟨k, hk, HN.out.1, .inr ⟨HN.out.2.1, by simp, HN.out.2.1 ▸ HN.out.2.2⟩⟩

theorem contX (l : List Rdg) (v : Value) (fid : Nat) (fst caps : Array Value) (p : Nat → Bool) (I : Nat → World → Prop) (w : World) (eg : ∀ args w, (callFunc fid args).run Try.prog w = .ok (.enter fid args) w)
    (hsl : ∀ k W, I k W → TriplesAt W v l)
    (hcall : ∀ k (hk : k < l.length) W, (∀ j, j < k → p j = false) → I k W → Calls Try.prog fid (fst.push (xv l[k]) ++ caps) W (fun e W' => e = .returned (.bool (p k)) ∧ I (k + 1) W')) (h0 : I 0 w) :
    Calls Try.prog 120 #[v, .func (.func fid) fst caps] w (IdxPost l.length p I (fun _ => .bool true) (.bool false)) := by
  have HI := Lib.hid (idxX l v fid fst caps p I w eg hsl hcall h0)
  have hlen := (hsl 0 w h0).len
  clear hsl hcall h0 eg
  go_enter Try.func120, Try.ntmps120
  go_wp2_with fail
  refine HI.out.mono ?_
  clear HI
  rintro e W' ⟨k, hk, hno, ⟨hlt, hp, rfl, hI⟩ | ⟨hkl, rfl, hI⟩⟩
  · have HN := Lib.hid (And.intro hno (And.intro hp hI))
    clear hno hp hI
    go_wp2_with fail
    go_returns
    exact ⟨k, hk, HN.out.1, .inl ⟨hlt, HN.out.2.1, by simp, HN.out.2.2⟩⟩
  · have HN := Lib.hid (And.intro hno (And.intro hkl hI))
    clear hno hkl hI
    go_wp2_with fail
    go_returns
    exact ⟨k, hk, HN.out.1, .inr ⟨HN.out.2.1, by simp, HN.out.2.1 ▸ HN.out.2.2⟩⟩

theorem all1R (x : Rng) (bx fid : Nat) (fst caps : Array Value) (b : Bool) (W : World) (R : World → Prop) (eg : ∀ args w, (callFunc fid args).run Try.prog w = .ok (.enter fid args) w)
    (hbx : W.cell? ⟨bx, 0, none⟩ = some (.func (.func fid) fst caps))
    (hcall : Calls Try.prog fid (fst.push (rv x) ++ caps) (W.alloc (.cells #[iv x.1, iv x.2] 36)) (fun e W' => e = .returned (.bool b) ∧ R W')) :
    Calls Try.prog 125 #[rv x, .pointer (some ⟨bx, 0, none⟩)] W (fun e W' => e = .returned (.bool !b) ∧ R W') := by
  have hlt := World.block_lt_of_cell? W _ hbx
  have HC := Lib.hid hcall
  clear hcall
  go_enter Try.func125, Try.ntmps125
  go_wp2_with fail
  refine HC.out.mono ?_
  rintro e W' ⟨rfl, hR⟩
  have HR := Lib.hid hR
  clear hR
  go_wp2_with fail
  go_returns
  exact ⟨by simp, HR.out⟩

theorem all1I (x : Int) (bx fid : Nat) (fst caps : Array Value) (b : Bool) (W : World) (R : World → Prop) (eg : ∀ args w, (callFunc fid args).run Try.prog w = .ok (.enter fid args) w)
    (hbx : W.cell? ⟨bx, 0, none⟩ = some (.func (.func fid) fst caps))
    (hcall : Calls Try.prog fid (fst.push (iv x) ++ caps) W (fun e W' => e = .returned (.bool b) ∧ R W')) :
    Calls Try.prog 128 #[iv x, .pointer (some ⟨bx, 0, none⟩)] W (fun e W' => e = .returned (.bool !b) ∧ R W') := by
  have hlt := World.block_lt_of_cell? W _ hbx
  have HC := Lib.hid hcall
  clear hcall
  go_enter Try.func128, Try.ntmps128
  go_wp2_with fail
  refine HC.out.mono ?_
  rintro e W' ⟨rfl, hR⟩
  have HR := Lib.hid hR
  clear hR
  go_wp2_with fail
  go_returns
  exact ⟨by simp, HR.out⟩

theorem all1X (x : Rdg) (bx fid : Nat) (fst caps : Array Value) (b : Bool) (W : World) (R : World → Prop) (eg : ∀ args w, (callFunc fid args).run Try.prog w = .ok (.enter fid args) w)
    (hbx : W.cell? ⟨bx, 0, none⟩ = some (.func (.func fid) fst caps))
    (hcall : Calls Try.prog fid (fst.push (xv x) ++ caps) (W.alloc (.cells #[iv x.1, iv x.2.1, iv x.2.2] 104)) (fun e W' => e = .returned (.bool b) ∧ R W')) :
    Calls Try.prog 121 #[xv x, .pointer (some ⟨bx, 0, none⟩)] W (fun e W' => e = .returned (.bool !b) ∧ R W') := by
  have hlt := World.block_lt_of_cell? W _ hbx
  have HC := Lib.hid hcall
  clear hcall
  go_enter Try.func121, Try.ntmps121
  go_wp2_with fail
  refine HC.out.mono ?_
  rintro e W' ⟨rfl, hR⟩
  have HR := Lib.hid hR
  clear hR
  go_wp2_with fail
  go_returns
  exact ⟨by simp, HR.out⟩

theorem allR (l : List Rng) (v : Value) (fid : Nat) (fst caps : Array Value) (p : Nat → Bool) (I : Nat → World → Prop) (w : World) (eg : ∀ args w, (callFunc fid args).run Try.prog w = .ok (.enter fid args) w)
    (hsl : ∀ k W, I k W → PairsAt W v l) (hal : ∀ k W o, I k W → I k (W.alloc o))
    (hcall : ∀ k (hk : k < l.length) W, (∀ j, j < k → p j = true) → I k W → Calls Try.prog fid (fst.push (rv l[k]) ++ caps) W (fun e W' => e = .returned (.bool (p k)) ∧ I (k + 1) W' ∧ FromOn w.heap.size W W')) (h0 : I 0 w) :
    Calls Try.prog 98 #[v, .func (.func fid) fst caps] w (IdxPost l.length (fun k => !p k) I (fun _ => .bool false) (.bool true)) := by
  have HI := Lib.hid (contR l v 125 #[] #[.pointer (some ⟨w.heap.size, 0, none⟩)] (fun k => !p k)
    (fun k W => I k W ∧ W.heap[w.heap.size]? = some (.cells #[.func (.func fid) fst caps] 143 (0, 0))) (w.alloc (.cells #[.func (.func fid) fst caps] 143))
    (enters_of Try.func125 (by kernel_rfl) rfl) (fun k W h => hsl k W h.1)
    (fun k hk W hno h => by
      have hlt : w.heap.size < W.heap.size := (Array.getElem?_eq_some_iff.1 h.2).1
      refine (all1R l[k] w.heap.size fid fst caps (p k) W (fun W' => I (k + 1) W' ∧ W'.heap[w.heap.size]? = some (.cells #[.func (.func fid) fst caps] 143 (0, 0))) eg (cell_of_block0 h.2) ?_)
      refine (hcall k hk _ (fun j hj => by simpa using hno j hj) (by first | exact hal _ _ _ h.1 | exact h.1)).mono ?_
      rintro e W' ⟨rfl, h1, h2⟩
      refine ⟨rfl, h1, (h2.block _ (Nat.le_refl _) (by first | exact hlt | (simp; omega))).trans (by first | exact h.2 | exact (Below.heap_alloc _ _ _ hlt).trans h.2)⟩)
    ⟨hal _ _ _ h0, heap_alloc_new w _⟩)
  have hlen := (hsl 0 w h0).len
  clear hsl hcall h0 eg hal
  go_enter Try.func98, Try.ntmps98
  go_wp2_with fail
  refine HI.out.mono ?_
  clear HI
  rintro e W' ⟨k, hk, hno, ⟨hlt, hp, rfl, hI, _⟩ | ⟨hkl, rfl, hI, _⟩⟩
  · have HN := Lib.hid (And.intro hno (And.intro hp hI))
    clear hno hp hI
    go_wp2_with fail
    go_returns
    exact ⟨k, hk, HN.out.1, .inl ⟨hlt, HN.out.2.1, by simp, HN.out.2.2⟩⟩
  · have HN := Lib.hid (And.intro hno (And.intro hkl hI))
    clear hno hkl hI
    go_wp2_with fail
    go_returns
    exact ⟨k, hk, HN.out.1, .inr ⟨HN.out.2.1, by simp, HN.out.2.1 ▸ HN.out.2.2⟩⟩

theorem allI (l : List Int) (v : Value) (fid : Nat) (fst caps : Array Value) (p : Nat → Bool) (I : Nat → World → Prop) (w : World) (eg : ∀ args w, (callFunc fid args).run Try.prog w = .ok (.enter fid args) w)
    (hsl : ∀ k W, I k W → IntsAt W v l) (hal : ∀ k W o, I k W → I k (W.alloc o))
    (hcall : ∀ k (hk : k < l.length) W, (∀ j, j < k → p j = true) → I k W → Calls Try.prog fid (fst.push (iv l[k]) ++ caps) W (fun e W' => e = .returned (.bool (p k)) ∧ I (k + 1) W' ∧ FromOn w.heap.size W W')) (h0 : I 0 w) :
    Calls Try.prog 108 #[v, .func (.func fid) fst caps] w (IdxPost l.length (fun k => !p k) I (fun _ => .bool false) (.bool true)) := by
  have HI := Lib.hid (contI l v 128 #[] #[.pointer (some ⟨w.heap.size, 0, none⟩)] (fun k => !p k)
    (fun k W => I k W ∧ W.heap[w.heap.size]? = some (.cells #[.func (.func fid) fst caps] 111 (0, 0))) (w.alloc (.cells #[.func (.func fid) fst caps] 111))
    (enters_of Try.func128 (by kernel_rfl) rfl) (fun k W h => hsl k W h.1)
    (fun k hk W hno h => by
      have hlt : w.heap.size < W.heap.size := (Array.getElem?_eq_some_iff.1 h.2).1
      refine (all1I l[k] w.heap.size fid fst caps (p k) W (fun W' => I (k + 1) W' ∧ W'.heap[w.heap.size]? = some (.cells #[.func (.func fid) fst caps] 111 (0, 0))) eg (cell_of_block0 h.2) ?_)
      refine (hcall k hk _ (fun j hj => by simpa using hno j hj) (by first | exact hal _ _ _ h.1 | exact h.1)).mono ?_
      rintro e W' ⟨rfl, h1, h2⟩
      refine ⟨rfl, h1, (h2.block _ (Nat.le_refl _) (by first | exact hlt | (simp; omega))).trans (by first | exact h.2 | exact (Below.heap_alloc _ _ _ hlt).trans h.2)⟩)
    ⟨hal _ _ _ h0, heap_alloc_new w _⟩)
  have hlen := (hsl 0 w h0).len
  clear hsl hcall h0 eg hal
  go_enter Try.func108, Try.ntmps108
  go_wp2_with fail
  refine HI.out.mono ?_
  clear HI
  rintro e W' ⟨k, hk, hno, ⟨hlt, hp, rfl, hI, _⟩ | ⟨hkl, rfl, hI, _⟩⟩
  · have HN := Lib.hid (And.intro hno (And.intro hp hI))
    clear hno hp hI
    go_wp2_with fail
    go_returns
    exact ⟨k, hk, HN.out.1, .inl ⟨hlt, HN.out.2.1, by simp, HN.out.2.2⟩⟩
  · have HN := Lib.hid (And.intro hno (And.intro hkl hI))
    clear hno hkl hI
    go_wp2_with fail
    go_returns
    exact ⟨k, hk, HN.out.1, .inr ⟨HN.out.2.1, by simp, HN.out.2.1 ▸ HN.out.2.2⟩⟩

theorem allX (l : List Rdg) (v : Value) (fid : Nat) (fst caps : Array Value) (p : Nat → Bool) (I : Nat → World → Prop) (w : World) (eg : ∀ args w, (callFunc fid args).run Try.prog w = .ok (.enter fid args) w)
    (hsl : ∀ k W, I k W → TriplesAt W v l) (hal : ∀ k W o, I k W → I k (W.alloc o))
    (hcall : ∀ k (hk : k < l.length) W, (∀ j, j < k → p j = true) → I k W → Calls Try.prog fid (fst.push (xv l[k]) ++ caps) W (fun e W' => e = .returned (.bool (p k)) ∧ I (k + 1) W' ∧ FromOn w.heap.size W W')) (h0 : I 0 w) :
    Calls Try.prog 93 #[v, .func (.func fid) fst caps] w (IdxPost l.length (fun k => !p k) I (fun _ => .bool false) (.bool true)) := by
  have HI := Lib.hid (contX l v 121 #[] #[.pointer (some ⟨w.heap.size, 0, none⟩)] (fun k => !p k)
    (fun k W => I k W ∧ W.heap[w.heap.size]? = some (.cells #[.func (.func fid) fst caps] 141 (0, 0))) (w.alloc (.cells #[.func (.func fid) fst caps] 141))
    (enters_of Try.func121 (by kernel_rfl) rfl) (fun k W h => hsl k W h.1)
    (fun k hk W hno h => by
      have hlt : w.heap.size < W.heap.size := (Array.getElem?_eq_some_iff.1 h.2).1
      refine (all1X l[k] w.heap.size fid fst caps (p k) W (fun W' => I (k + 1) W' ∧ W'.heap[w.heap.size]? = some (.cells #[.func (.func fid) fst caps] 141 (0, 0))) eg (cell_of_block0 h.2) ?_)
      refine (hcall k hk _ (fun j hj => by simpa using hno j hj) (by first | exact hal _ _ _ h.1 | exact h.1)).mono ?_
      rintro e W' ⟨rfl, h1, h2⟩
      refine ⟨rfl, h1, (h2.block _ (Nat.le_refl _) (by first | exact hlt | (simp; omega))).trans (by first | exact h.2 | exact (Below.heap_alloc _ _ _ hlt).trans h.2)⟩)
    ⟨hal _ _ _ h0, heap_alloc_new w _⟩)
  have hlen := (hsl 0 w h0).len
  clear hsl hcall h0 eg hal
  go_enter Try.func93, Try.ntmps93
  go_wp2_with fail
  refine HI.out.mono ?_
  clear HI
  rintro e W' ⟨k, hk, hno, ⟨hlt, hp, rfl, hI, _⟩ | ⟨hkl, rfl, hI, _⟩⟩
  · have HN := Lib.hid (And.intro hno (And.intro hp hI))
    clear hno hp hI
    go_wp2_with fail
    go_returns
    exact ⟨k, hk, HN.out.1, .inl ⟨hlt, HN.out.2.1, by simp, HN.out.2.2⟩⟩
  · have HN := Lib.hid (And.intro hno (And.intro hkl hI))
    clear hno hkl hI
    go_wp2_with fail
    go_returns
    exact ⟨k, hk, HN.out.1, .inr ⟨HN.out.2.1, by simp, HN.out.2.1 ▸ HN.out.2.2⟩⟩

end Go.Proofs.Ytoibfafmnaooaaa

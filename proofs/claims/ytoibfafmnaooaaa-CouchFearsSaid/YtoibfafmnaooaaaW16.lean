/-
  Contracts of package couch, fifteenth part: kept.
-/
import Derived.WalkKit
import Derived.WalkLawsBesides
import Derived.WalkSpells
import Derived.Outline
import Derived.Handy
import Derived.KernelRfl
import Derived.Lib.Hide
import Derived.Test.YtoibfafmnaooaaaW15
namespace Go.Proofs.Ytoibfafmnaooaaa
open Go.RowKit Go.RG Go.SL Go.Shelf Cou
set_option maxHeartbeats 400000
set_option maxRecDepth 10000

theorem allI_pure (l : List Int) (v : Value) (fid : Nat) (fst caps : Array Value) (q : Int → Bool) (w : World) (hv : IntsAt w v l) (eg : ∀ args w, (callFunc fid args).run Try.prog w = .ok (.enter fid args) w)
    (hcall : ∀ x ∈ l, ∀ W, Below w.heap.size w W → Calls Try.prog fid (fst.push (iv x) ++ caps) W (PV (.bool (q x)) W)) :
    Calls Try.prog 108 #[v, .func (.func fid) fst caps] w (PV (.bool (l.all q)) w) := by
  refine (allI l v fid fst caps (fun k => q (l.getD k 0)) (fun _ W => Below w.heap.size w W) w eg (fun k W h => hv.below h (Nat.le_refl _)) (fun k W o h => bgoAlloc h o) (fun k hk W _ h => ?_) (Below.refl _ _)).mono ?_
  · refine (hcall l[k] (List.getElem_mem _) W h).mono ?_
    rintro e W' ⟨rfl, hb⟩
    exact ⟨by simp [hk], bgo h hb, FromOn.of_below hb⟩
  · intro e W' hpost
    obtain ⟨rfl, k, _, hI⟩ := hpost.all
    refine ⟨?_, hI⟩
    rw [all_of_any, range_all]

def lostB (h : HeapD) (n : Int) : Bool := decide (h.burn < n) || decide (n < h.die)
def keptL (h : HeapD) (l : List Int) : Bool := (l.take (h.last + 1).toNat).all fun n => !lostB h n

theorem kept1_any (h : HeapD) (a b c : Value) (n : Int) (bh : Nat) (w : World) (hb : w.heap[bh]? = some (.cells #[.int .i64 h.last, .int .i64 h.size, .int .i64 h.cool, .int .i64 h.die, .int .i64 h.burn, .int .i64 h.start.1, .int .i64 h.start.2, a, b, c] 40 (0, 0))) :
    Calls Try.prog 114 #[iv n, .pointer (some ⟨bh, 0, none⟩)] w (PV (.bool (!lostB h n)) w) := by
  have hc0 : ∀ i, w.cell? ⟨bh, i, none⟩ = (#[.int .i64 h.last, .int .i64 h.size, .int .i64 h.cool, .int .i64 h.die, .int .i64 h.burn, .int .i64 h.start.1, .int .i64 h.start.2, a, b, c] : Array Value)[i]? := fun i => by
    simp only [World.cell?, hb]; rfl
  have hlt := (Array.getElem?_eq_some_iff.1 hb).1
  clear hb
  go_enter Try.func114, Try.ntmps114
  go_wp2_with fail
  refine (lost_any h a b c n w).mono ?_
  rintro e w' ⟨rfl, hb⟩
  have HB := Lib.hid hb
  clear hb
  generalize hl : (decide (h.burn < n) || decide (n < h.die)) = q
  have HL : Hid (lostB h n = q) := Lib.hid hl
  clear hl
  go_wp2_with fail
  go_returns
  exact ⟨by rw [HL.out]; simp, HB.out⟩

theorem kept_any (h : HeapD) (ow ot ox : Option Addr) (nw cw nt ct nx cx : Nat) (l : List Int) (h10 : l.length = 10) (w : World) (h0 : 0 ≤ h.last) (h9 : h.last ≤ 9) :
    Calls Try.prog 85 #[hv h (.slice ow nw cw) (.slice ot nt ct) (.slice ox nx cx), aggI l] w (PV (.bool (keptL h l)) w) := by
  obtain ⟨n, hn⟩ : ∃ n : Nat, h.last + 1 = n := ⟨(h.last + 1).toNat, by omega⟩
  have hn10 : n ≤ 10 := by omega
  have hk : keptL h l = (l.take n).all fun n => !lostB h n := by unfold keptL; rw [hn]; rfl
  rw [hk]
  clear hk
  obtain ⟨y0, y1, y2, y3, y4, y5, y6, y7, y8, y9, rfl⟩ := ten_of h10
  have hnI : (n : Int) ≤ 10 := by omega
  have hnI0 : (0 : Int) ≤ n := by omega
  have hl10 : ([y0, y1, y2, y3, y4, y5, y6, y7, y8, y9].take n).length = n := by simp; omega
  show Calls Try.prog 85 #[hv h (.slice ow nw cw) (.slice ot nt ct) (.slice ox nx cx), .agg #[iv y0, iv y1, iv y2, iv y3, iv y4, iv y5, iv y6, iv y7, iv y8, iv y9]] w _
  go_enter Try.func85, Try.ntmps85
  go_wp2_with fail
  refine (hours_n h _ _ _ n _ h0 h9 hn).mono ?_
  rintro e w' ⟨rfl, hb⟩
  obtain ⟨hc, hf⟩ := bcell hb
  have hz0 : w.heap.size < w'.heap.size := (by have := hb.size; (try simp only [World.size_alloc] at this); omega)
  have hz1 : w.heap.size + 1 < w'.heap.size := (by have := hb.size; (try simp only [World.size_alloc] at this); omega)
  have HA := Lib.hid ((hb.block w.heap.size (by simp; omega)).trans ((Below.heap_alloc _ _ _ (by simp)).trans (heap_new0 _ _)))
  have HK := Lib.hid ((hb.block (w.heap.size + 1) (by simp)).trans (heap_new1 _ _ _))
  have HB := Lib.hid (show Below w.heap.size w w' from (by repeat (first | exact Below.refl _ _ | assumption | refine bgo ?_ (by assumption) | refine bgoAlloc ?_ _ | refine bgoDrew ?_ | refine bgoSet ?_ (by simp; omega) _)))
  clear hb
  go_wp2_with fail
  have hsl : IntsAt w' (.slice (some ⟨w.heap.size + 1, 0, none⟩) n 10) ([y0, y1, y2, y3, y4, y5, y6, y7, y8, y9].take n) := by
    have := SlAt.of_prefix n 10 HK.out (by simpa using hn10) hn10 (by simp [maxLen])
    unfold IntsAt intCells
    rw [hl10, List.map_take]
    exact this
  refine (allI_pure _ (.slice (some ⟨w.heap.size + 1, 0, none⟩) n 10) 114 #[] #[.pointer (some ⟨w.heap.size, 0, none⟩)] (fun n => !lostB h n) w' hsl (enters_of Try.func114 (by kernel_rfl) rfl) ?_).mono ?_
  · intro x _ W hW
    exact kept1_any h _ _ _ x w.heap.size W ((hW.block _ (Array.getElem?_eq_some_iff.1 HA.out).1).trans HA.out)
  · rintro e W2 ⟨rfl, hb⟩
    have HB2 := Lib.hid hb
    clear hb hsl
    go_wp2_with fail
    go_returns
    exact ⟨by simp, bgo HB.out HB2.out⟩

end Go.Proofs.Ytoibfafmnaooaaa

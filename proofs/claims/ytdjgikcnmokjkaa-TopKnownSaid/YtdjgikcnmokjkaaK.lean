/-
  Keys: arrays of numbers and structs of numbers as keys of tables; arrays compared; a load from the middle of memory.
-/
import Derived.WalkKit
import Derived.WalkLawsBesides
import Derived.WalkSpells
import Derived.Outline
import Derived.Handy
import Derived.KernelRfl
import Derived.Lib.Hide
import Derived.Test.YtdjgikcnmokjkaaPC
namespace Go.SL
open Go.RowKit Go.RG
theorem exec_load_mid {P : Program} {o : Oper} {ρ : Operand → Value} {W : World} (t : TypeId) (x : Operand) (ho : o.op = .load t x) (b off : Nat) (hx : ρ x = .pointer (some ⟨b, off, none⟩)) (cs : List Value) (d : TypeDesc)
    (hc : W.rangeAt b off cs) (hu : P.underlying t = some d) (hd : d.isRow = true) (hi : (P.info? t).map (·.size) = some cs.length) : (execOp ρ o).run P W = .ok (.value (.agg cs.toArray)) W := by
  unfold execOp
  simp only [ho, hx, Instr.loadAt, Instr.sureAddr, Sem.run_bind, Sem.run_pure, Result.andThen_ok, run_loadVar_mid W b off t cs d hc hu hd hi]

theorem all_range_ints : ∀ (xs ys : List Int), xs.length = ys.length → ((List.range xs.length).all fun i => xs.getD i 0 == ys.getD i 0) = (xs == ys)
  | [], [], _ => rfl
  | x :: xs, y :: ys, h => by
    have ih := all_range_ints xs ys (by simpa using h)
    rw [List.length_cons, List.range_succ_eq_map, List.all_cons, List.all_map]
    simp only [List.getD_cons_zero, Function.comp_def, List.getD_cons_succ, ih]
    simp [List.cons_beq_cons]
  | [], _ :: _, h => by simp at h
  | _ :: _, [], h => by simp at h

theorem run_equalIn_ints {P : Program} (w : World) (d : Nat) (t e : TypeId) (n : Nat) (ht : P.underlying t = some (.array n e)) (he : P.underlying e = some (.int .i64)) (hsz : ∀ w, (sizeOf e).run P w = .ok 1 w)
    (xs ys : List Int) (hx : xs.length = n) (hy : ys.length = n) :
    (Op.equalIn (d + 2) t (.agg (intCells xs).toArray) (.agg (intCells ys).toArray)).run P w = .ok (xs == ys) w := by
  rw [← all_range_ints xs ys (hx.trans hy.symm), hx, List.range_eq_range', Op.equalIn]
  simp only [Sem.run_bind, run_underlying ht, Result.andThen_ok, hsz, Std.Legacy.Range.forIn_eq_forIn_range', Std.Legacy.Range.size, Nat.sub_zero, Nat.add_sub_cancel, Nat.div_one]
  have hl : ∀ i ∈ List.range' 0 n 1, i < n := fun i hi => by simpa using (List.mem_range'_1.1 hi).2
  generalize List.range' 0 n 1 = l at hl ⊢
  induction l with
  | nil => simp
  | cons i l ih =>
    have hi : i < n := hl i (by simp)
    have px : (part e (intCells xs).toArray (i * 1)).run P w = .ok (.int .i64 (xs.getD i 0)) w := by
      simp [part, isAgg, run_underlying he, intCells, List.getD, List.getElem?_eq_getElem (show i < xs.length by omega)]
    have py : (part e (intCells ys).toArray (i * 1)).run P w = .ok (.int .i64 (ys.getD i 0)) w := by
      simp [part, isAgg, run_underlying he, intCells, List.getD, List.getElem?_eq_getElem (show i < ys.length by omega)]
    have pe : (Op.equalIn (d + 1) e (.int .i64 (xs.getD i 0)) (.int .i64 (ys.getD i 0))).run P w = .ok (xs.getD i 0 == ys.getD i 0) w := run_equalIn_int w d e .i64 .i64 _ _ he
    simp only [List.forIn_cons, Sem.run_bind, px, py, pe, Result.andThen_ok, List.all_cons]
    cases hb : (xs.getD i 0 == ys.getD i 0)
    · simp
    · simp only [Bool.not_true, Bool.false_eq_true, if_false, Sem.run_pure, Result.andThen_ok, Bool.true_and]
      exact ih fun j hj => hl j (by simp [hj])

theorem run_neq_ints {P : Program} (w : World) (t e : TypeId) (n : Nat) (ht : P.underlying t = some (.array n e)) (he : P.underlying e = some (.int .i64)) (hsz : ∀ w, (sizeOf e).run P w = .ok 1 w)
    (xs ys : List Int) (hx : xs.length = n) (hy : ys.length = n) :
    (binOp .neq t (.agg (intCells xs).toArray) (.agg (intCells ys).toArray)).run P w = .ok (.bool (!(xs == ys))) w := by
  rw [run_neq_struct, run_equalIn_ints w 9998 t e n ht he hsz xs ys hx hy]
  rfl

theorem exec_neq_ints {P : Program} {o : Oper} {ρ : Operand → Value} {W : World} (t e tb : TypeId) (n : Nat) (x y : Operand) (ho : o.op = .binOp .neq t x y tb) (ht : P.underlying t = some (.array n e)) (he : P.underlying e = some (.int .i64)) (hsz : ∀ w, (sizeOf e).run P w = .ok 1 w)
    (hm : P.eqGuardType P.depth t = false) (xs ys : List Int) (hx : ρ x = .agg (intCells xs).toArray) (hy : ρ y = .agg (intCells ys).toArray) (hxl : xs.length = n) (hyl : ys.length = n) :
    (execOp ρ o).run P W = .ok (.value (.bool (!(xs == ys)))) W := by
  unfold execOp
  simp only [ho, hx, hy, Sem.run_bind, run_eqGuard_agg W .neq t x y _ _ hm, Result.andThen_ok, run_neq_ints W t e n ht he hsz xs ys hxl hyl, Sem.run_pure]

theorem owns_slice {w : World} {base : Nat} {e : TypeId} {size : Nat} {v : Value} {n : Nat} {xs : List Value} (h : w.ownsRow base e size v n xs) : ∃ o c, v = .slice o n c := by
  obtain ⟨h1, ⟨rfl, rfl⟩ | ⟨g, c, cs, rfl, hb, hc, h3⟩⟩ := h
  · exact ⟨none, 0, rfl⟩
  · exact ⟨_, _, rfl⟩

/-- The last element of a slice of arrays. -/
theorem owns_last {w : World} {base : Nat} {e : TypeId} {k : Nat} {v : Value} {A : List (List Int)} {z : List Int} (h : w.ownsRow base e k v (A.length + 1) ((A ++ [z]).flatMap intCells)) (hA : ∀ x ∈ A, x.length = k) (hz : z.length = k) :
    ∃ g c, v = .slice (some ⟨g, 0, none⟩) (A.length + 1) c ∧ base ≤ g ∧ g < w.heap.size ∧ w.rangeAt g (A.length * k) (intCells z) := by
  obtain ⟨h1, ⟨hv, h2⟩ | ⟨g, c, cs, hv, hb, hc, hn, hm, hs, hx⟩⟩ := h
  · exact absurd h2 (by simp)
  · refine ⟨g, c, hv, hb, (Array.getElem?_eq_some_iff.1 hc).1, fun j u hj => ?_⟩
    have hj' : j < k := by have := (List.getElem?_eq_some_iff.1 hj).1; simpa [intCells, hz] using this
    have e1 : ((A ++ [z]).flatMap intCells)[A.length * k + j]? = some u := by
      rw [List.flatMap_append, List.getElem?_append_right (by rw [len_flat A k hA]; omega), len_flat A k hA, Nat.add_sub_cancel_left]
      simpa using hj
    rw [← hx, List.getElem?_take] at e1
    split at e1
    · simp only [World.cell?, hc]; simpa using e1
    · cases e1

end Go.SL

namespace Go.Proofs.Ytdjgikcnmokjkaa
open Go.RowKit Go.RG Go.SL Go.Shelf Cou Go.TB
set_option maxHeartbeats 400000
set_option maxRecDepth 10000

theorem check_int9 (b : Bool) (n : Int) (w : World) : (Instr.checkKey b 9999 3 (iv n)).run Try.prog w = .ok () w := check_int b 9998 n w
/-! ### A stretch -/
abbrev Str := Int × Int × Int
abbrev strv (k : Str) : Value := .agg #[iv k.1, iv k.2.1, iv k.2.2]

theorem keyStr : KeyT Try.prog 145 strv (fun _ => True) where
  find w x es := run_findKey_eq w (by kernel_rfl) x es
  check b a w _ := by
    unfold Instr.checkKey
    simp [go_sem]
    simp only [check_int9, Result.andThen_ok]
  eq a b w _ _ := by
    unfold Op.equal Op.maxDepth
    simp [go_sem]
    obtain ⟨a1, a2, a3⟩ := a
    obtain ⟨b1, b2, b3⟩ := b
    by_cases h1 : a1 = b1 <;> by_cases h2 : a2 = b2 <;> by_cases h3 : a3 = b3 <;> simp [h1, h2, h3]
  bits a _ := by simp [Instr.sameBits]

/-! ### An array of seven numbers -/
def Len7 (l : List Int) : Prop := l.length = 7
theorem keyAns : KeyT Try.prog 96 aggI Len7 where
  find w x es := run_findKey_eq w (by kernel_rfl) x es
  check b a w h := by
    obtain ⟨a0, a1, a2, a3, a4, a5, a6, rfl⟩ := seven_of h
    show (Instr.checkKey b 10000 96 (.agg #[iv a0, iv a1, iv a2, iv a3, iv a4, iv a5, iv a6])).run _ _ = _
    unfold Instr.checkKey
    simp [go_sem]
    rw [show List.range' 0 7 = [0, 1, 2, 3, 4, 5, 6] from rfl]
    simp [go_sem, check_int9]
  eq a b w ha hb := by
    have h := run_equalIn_ints (P := Try.prog) w 9998 96 3 7 (by kernel_rfl) (by kernel_rfl) (fun w => by kernel_rfl) a b ha hb
    have : (Op.equal 96 (aggI a) (aggI b)).run Try.prog w = .ok (a == b) w := h
    rw [this]
    congr 1
    by_cases e : a = b
    · subst e; simp
    · simp [e]
  bits a h := by
    obtain ⟨a0, a1, a2, a3, a4, a5, a6, rfl⟩ := seven_of h
    show Instr.sameBits 10000 (.agg #[iv a0, iv a1, iv a2, iv a3, iv a4, iv a5, iv a6]) (.agg #[iv a0, iv a1, iv a2, iv a3, iv a4, iv a5, iv a6]) = true
    simp [Instr.sameBits]

end Go.Proofs.Ytdjgikcnmokjkaa


/-
  The laws' argument, opened: a ledger of the reference.
-/
import Derived.WalkKit
import Derived.WalkLawsBesides
import Derived.WalkSpells
import Derived.Outline
import Derived.Handy
import Derived.KernelRfl
import Derived.Lib.Hide
import Derived.Deep.Slices
import Derived.Carry
import Derived.Test.YtdjgikcnmokjkaaGreatZA
namespace Go.Proofs.YtdjgikcnmokjkaaGreat
open Go.RowKit Go.RG Go.SL Cou Go.Deep
set_option maxHeartbeats 400000
set_option maxRecDepth 100000

section
variable {H : Type} {enc : TypeId × Value → H} {P : Program} {W : World} {base b0 : Nat} {spare : Nat → Bool} {held : Bool} {r : Reach}

theorem open_rows {α : Type} [Inhabited α] (f : α → List Value) (k : Nat) (hk0 : 0 < k) (hf : ∀ x, (f x).length = k) {t e : TypeId} (ht : P.underlying t = some (.slice e)) (hk : P.cellsOf e = k)
    (hel : ∀ fuel cs x, DataW.trod enc P W base spare held fuel e cs = some x → ∃ y : α, cs = f y)
    {v : Value} (hok : Cell.ok P W r b0 t v) {fuel : Nat} {x : DataW H × List MemPlace} (h : DataW.trod enc P W base spare held fuel t [v] = some x) :
    ∃ l : List α, SlAt k W v l.length (l.flatMap f) := by
  rcases open_slice ht h with ⟨hc, _⟩ | ⟨a, len, cap, m, n, D, Pl, hc, hb, hl, hm, hmm, _, hx⟩
  · cases hc
    exact ⟨[], SlAt.nil k W⟩
  · cases hc
    have hsp : a.spot = none := by
      simp only [Cell.ok, ht, World.has] at hok
      exact hok.2.2.2.1
    have hlm : len ≤ m := by rw [hmm]; split <;> omega
    have each : ∀ i, i < m → ∃ y : α, ∀ j u, (f y)[j]? = some u → W.cell? ⟨a.block, a.off + (i * k + j), none⟩ = some u := by
      intro i hi
      obtain ⟨cs', h1, h2⟩ := hx i hi
      rw [hk] at h1
      obtain ⟨_, hlen, hcell⟩ := World.cells?_some h1
      obtain ⟨y, rfl⟩ := hel _ _ _ h2
      refine ⟨y, fun j u hj => ?_⟩
      have hjk : j < k := by rw [← hf y]; exact (List.getElem?_eq_some_iff.1 hj).1
      have h3 := hcell j hjk
      rw [add_add] at h3
      obtain ⟨b, off, sp⟩ := a
      simp only at hsp
      subst hsp
      rw [Addr.add_lit] at h3
      rw [h3, hj]
    obtain ⟨Y, hY⟩ := choose_lt each
    have hlen : ((List.range len).map Y).length = len := by simp
    refine ⟨(List.range len).map Y, ?_, some a, cap, by rw [hlen], by rw [hlen]; exact hl, hm, (fun h => by cases h), fun a' ha => ?_⟩
    · have : ∀ l : List α, (l.flatMap f).length = l.length * k := by
        intro l
        induction l with
        | nil => simp
        | cons z l ih => rw [List.flatMap_cons, List.length_append, hf, ih, List.length_cons, Nat.add_mul]; omega
      exact this _
    · cases ha
      refine ⟨hsp, fun j u hj => ?_⟩
      have hjl : j < (((List.range len).map Y).flatMap f).length := (List.getElem?_eq_some_iff.1 hj).1
      have hlenf : (((List.range len).map Y).flatMap f).length = len * k := by
        have : ∀ l : List α, (l.flatMap f).length = l.length * k := by
          intro l
          induction l with
          | nil => simp
          | cons z l ih => rw [List.flatMap_cons, List.length_append, hf, ih, List.length_cons, Nat.add_mul]; omega
        rw [this, hlen]
      rw [hlenf] at hjl
      have hi : j / k < len := (Nat.div_lt_iff_lt_mul hk0).2 hjl
      have hr : j % k < k := Nat.mod_lt _ hk0
      have e : j / k * k + j % k = j := by rw [Nat.mul_comm]; exact Nat.div_add_mod j k
      have := flat_get f k hf ((List.range len).map Y) (j / k) (j % k) (by rw [hlen]; exact hi) hr
      rw [e, hj] at this
      simp only [List.getElem_map, List.getElem_range] at this
      have h4 := hY (j / k) (by omega) (j % k) u this.symm
      rw [e] at h4
      exact h4

theorem trod_i64 {t : TypeId} (ht : P.underlying t = some (.int .i64)) {fuel : Nat} {cs : List Value} {x : DataW H × List MemPlace} (h : DataW.trod enc P W base spare held fuel t cs = some x) : ∃ n : Int, cs = [.int .i64 n] := by
  cases fuel with
  | zero => simp [DataW.trod] at h
  | succ m =>
    unfold DataW.trod at h
    rw [ht] at h
    split at h <;> simp_all

theorem trod_pair {t i : TypeId} {f0 f1 : Field} (ht : P.underlying t = some (.struct #[f0, f1])) (hi : P.underlying i = some (.int .i64)) (hc : P.cellsOf t = 2) (hci : P.cellsOf i = 1)
    (t0 : f0.type = i) (t1 : f1.type = i) (o0 : f0.offset = 0) (o1 : f1.offset = 1) {fuel : Nat} {cs : List Value} {x : DataW H × List MemPlace} (h : DataW.trod enc P W base spare held fuel t cs = some x) :
    ∃ y : Rng, cs = [.int .i64 y.1, .int .i64 y.2] := by
  obtain ⟨xs, n, _, _, hl, hxs, hf⟩ := DataW.trod_struct ht h
  rw [hc] at hl
  have hxs2 : xs.length = 2 := hxs
  match cs, hl, xs, hxs2 with
  | [a, b], _, [y0, y1], _ =>
    have g0 := hf 0 f0 rfl
    have g1 := hf 1 f1 rfl
    rw [t0, o0, hci] at g0
    rw [t1, o1, hci] at g1
    obtain ⟨p, hp⟩ := trod_i64 hi g0
    obtain ⟨q, hq⟩ := trod_i64 hi g1
    simp at hp hq
    exact ⟨(p, q), by rw [hp, hq]⟩

theorem trod_tally {t i p : TypeId} {f0 f1 f2 f3 e0 e1 : Field} (ht : P.underlying t = some (.struct #[f0, f1, f2, f3])) (hp' : P.underlying p = some (.struct #[e0, e1])) (hi : P.underlying i = some (.int .i64)) (hc : P.cellsOf t = 5) (hci : P.cellsOf i = 1) (hcp : P.cellsOf p = 2)
    (t0 : f0.type = i) (t1 : f1.type = i) (t2 : f2.type = i) (t3 : f3.type = p) (o0 : f0.offset = 0) (o1 : f1.offset = 1) (o2 : f2.offset = 2) (o3 : f3.offset = 3)
    (u0 : e0.type = i) (u1 : e1.type = i) (p0 : e0.offset = 0) (p1 : e1.offset = 1) {fuel : Nat} {cs : List Value} {x : DataW H × List MemPlace} (h : DataW.trod enc P W base spare held fuel t cs = some x) :
    ∃ y : Tly, cs = [iv y.1, iv y.2.1, iv y.2.2.1, iv y.2.2.2.1, iv y.2.2.2.2] := by
  obtain ⟨xs, n, _, _, hl, hxs, hf⟩ := DataW.trod_struct ht h
  rw [hc] at hl
  have hxs2 : xs.length = 4 := hxs
  match cs, hl, xs, hxs2 with
  | [a, b, c, d, e], _, [y0, y1, y2, y3], _ =>
    have g0 := hf 0 f0 rfl
    have g1 := hf 1 f1 rfl
    have g2 := hf 2 f2 rfl
    have g3 := hf 3 f3 rfl
    rw [t0, o0, hci] at g0
    rw [t1, o1, hci] at g1
    rw [t2, o2, hci] at g2
    rw [t3, o3, hcp] at g3
    obtain ⟨p, hp⟩ := trod_i64 hi g0
    obtain ⟨q, hq⟩ := trod_i64 hi g1
    obtain ⟨s, hs⟩ := trod_i64 hi g2
    obtain ⟨y, hy⟩ := trod_pair hp' hi hcp hci u0 u1 p0 p1 g3
    simp at hp hq hs hy
    exact ⟨(p, q, s, y), by rw [hp, hq, hs, hy.1, hy.2]⟩
theorem trod_note {t i p : TypeId} {f0 f1 e0 e1 : Field} (ht : P.underlying t = some (.struct #[f0, f1])) (hp' : P.underlying p = some (.struct #[e0, e1])) (hi : P.underlying i = some (.int .i64)) (hc : P.cellsOf t = 3) (hci : P.cellsOf i = 1) (hcp : P.cellsOf p = 2)
    (t0 : f0.type = i) (t1 : f1.type = p) (o0 : f0.offset = 0) (o1 : f1.offset = 1)
    (u0 : e0.type = i) (u1 : e1.type = i) (p0 : e0.offset = 0) (p1 : e1.offset = 1) {fuel : Nat} {cs : List Value} {x : DataW H × List MemPlace} (h : DataW.trod enc P W base spare held fuel t cs = some x) :
    ∃ y : Rdg, cs = [.int .i64 y.1, .int .i64 y.2.1, .int .i64 y.2.2] := by
  obtain ⟨xs, n, _, _, hl, hxs, hf⟩ := DataW.trod_struct ht h
  rw [hc] at hl
  have hxs2 : xs.length = 2 := hxs
  match cs, hl, xs, hxs2 with
  | [a, b, c], _, [y0, y1], _ =>
    have g0 := hf 0 f0 rfl
    have g1 := hf 1 f1 rfl
    rw [t0, o0, hci] at g0
    rw [t1, o1, hcp] at g1
    obtain ⟨p, hp⟩ := trod_i64 hi g0
    obtain ⟨y, hy⟩ := trod_pair hp' hi hcp hci u0 u1 p0 p1 g1
    simp at hp hy
    exact ⟨(p, y), by rw [hp, hy.1, hy.2]⟩
end

section
variable {H : Type} {enc : TypeId × Value → H} {W : World} {base b0 : Nat} {spare : Nat → Bool} {held : Bool} {r : Reach}

theorem c_int : Tryz.prog.cellsOf 3 = 1 := by kernel_rfl
theorem c_range : Tryz.prog.cellsOf 23 = 2 := by kernel_rfl
theorem c_tally : Tryz.prog.cellsOf 155 = 5 := by kernel_rfl
theorem c_field : Tryz.prog.cellsOf 26 = 5 := by kernel_rfl
theorem c_tallies : Tryz.prog.cellsOf 24 = 1 := by kernel_rfl

theorem open_tallies {v : Value} (hok : Cell.ok Tryz.prog W r b0 24 v) {fuel : Nat} {x : DataW H × List MemPlace} (h : DataW.trod enc Tryz.prog W base spare held fuel 24 [v] = some x) : ∃ l : List Tly, TalliesAt W v l :=
  open_rows (fun y : Tly => [iv y.1, iv y.2.1, iv y.2.2.1, iv y.2.2.2.1, iv y.2.2.2.2]) 5 (by omega) (fun _ => rfl) Tryz.underlying24 c_tally
    (fun fuel cs x hx => trod_tally Tryz.underlying155 Tryz.underlying23 Tryz.underlying3 c_tally c_int c_range rfl rfl rfl rfl rfl rfl rfl rfl rfl rfl rfl rfl hx) hok h

theorem okWide_i64 {v : Value} (h : Cell.okWide Tryz.prog W r b0 3 v) : ∃ n, v = .int .i64 n := by
  simp only [Cell.okWide, Tryz.underlying3] at h
  cases v <;> simp_all [Cell.ok, Tryz.underlying3]

theorem c_notes : Tryz.prog.cellsOf 28 = 1 := by kernel_rfl
theorem c_note : Tryz.prog.cellsOf 77 = 3 := by kernel_rfl
theorem c_range9 : Tryz.prog.cellsOf 27 = 2 := by kernel_rfl
theorem c_ledger : Tryz.prog.cellsOf 30 = 9 := by kernel_rfl
theorem open_notes {v : Value} (hok : Cell.ok Tryz.prog W r b0 28 v) {fuel : Nat} {x : DataW H × List MemPlace} (h : DataW.trod enc Tryz.prog W base spare held fuel 28 [v] = some x) : ∃ l : List Rdg, TriplesAt W v l :=
  open_rows (fun y : Rdg => [.int .i64 y.1, .int .i64 y.2.1, .int .i64 y.2.2]) 3 (by omega) (fun _ => rfl) Tryz.underlying28 c_note
    (fun fuel cs x hx => trod_note Tryz.underlying77 Tryz.underlying27 Tryz.underlying3 c_note c_int c_range9 rfl rfl rfl rfl rfl rfl rfl rfl hx) hok h

/-- **A LEDGER OF THE REFERENCE, OPENED.** -/
theorem open_ledger {v : Value} {d : DataW H} {p : List MemPlace} (hok : Value.okWide Tryz.prog W r b0 30 v) (h : DataW.Trod enc Tryz.prog W base spare held 30 v d p) :
    ∃ (l : LedgerD) (tv nv : Value), v = lv l tv nv ∧ TalliesAt W tv l.field.tallies ∧ TriplesAt W nv l.notes := by
  simp only [Value.okWide, Tryz.underlying30] at hok
  obtain ⟨cs, rfl, hsz, ts, hts, _, hcell⟩ := hok
  rw [show Tryz.prog.cellTypes Tryz.prog.depth 30 = some [3, 3, 3, 3, 24, 3, 3, 3, 28] from by kernel_rfl] at hts
  cases hts
  rw [c_ledger] at hsz
  obtain ⟨cs⟩ := cs
  obtain ⟨fuel, hd⟩ := h
  simp only [Value.cells] at hd
  simp only [List.size_toArray] at hsz
  obtain ⟨xs, n, _, _, _, hxs, hf⟩ := DataW.trod_struct Tryz.underlying30 hd
  have hxs4 : xs.length = 4 := hxs
  match cs, hsz, xs, hxs4 with
  | [v0, v1, v2, v3, v4, v5, v6, v7, v8], _, [x0, x1, x2, x3], _ =>
    have c0 := hcell 0 v0 rfl
    have c1 := hcell 1 v1 rfl
    have c2 := hcell 2 v2 rfl
    have c3 := hcell 3 v3 rfl
    have c4 := hcell 4 v4 rfl
    have c5 := hcell 5 v5 rfl
    have c6 := hcell 6 v6 rfl
    have c7 := hcell 7 v7 rfl
    have c8 := hcell 8 v8 rfl
    simp only [List.length_cons, List.length_nil, Nat.reduceAdd, Nat.reduceMod, List.getElem?_cons_zero, List.getElem?_cons_succ, Option.some.injEq, exists_eq_left'] at c0 c1 c2 c3 c4 c5 c6 c7 c8
    obtain ⟨n0, rfl⟩ := okWide_i64 c0
    obtain ⟨n1, rfl⟩ := okWide_i64 c1
    obtain ⟨n2, rfl⟩ := okWide_i64 c2
    obtain ⟨n3, rfl⟩ := okWide_i64 c3
    obtain ⟨n5, rfl⟩ := okWide_i64 c5
    obtain ⟨n6, rfl⟩ := okWide_i64 c6
    obtain ⟨n7, rfl⟩ := okWide_i64 c7
    have g0 := hf 0 _ rfl
    have g3 := hf 3 _ rfl
    simp [c_notes, c_field] at g0 g3
    obtain ⟨ys, n', _, _, _, hys, hf'⟩ := DataW.trod_struct Tryz.underlying26 g0
    have hys4 : ys.length = 4 := hys
    match ys, hys4 with
    | [y0, y1, y2, y3], _ =>
      have k3 := hf' 3 _ rfl
      simp [c_tallies] at k3
      obtain ⟨l1, h1⟩ := open_tallies (r := r) (b0 := b0) (by simpa [Cell.okWide, Tryz.underlying24] using c4) k3
      obtain ⟨l2, h2⟩ := open_notes (r := r) (b0 := b0) (by simpa [Cell.okWide, Tryz.underlying28] using c8) g3
      exact ⟨⟨⟨n0, n1, (n2, n3), l1⟩, n5, (n6, n7), l2⟩, v4, v8, rfl, h1, h2⟩
end

/-- All arguments read as they did. -/
theorem trodAll_below {H : Type} {enc : TypeId × Value → H} {P : Program} (hl : laidOutB P = true) {ts : List TypeId} (hr : (ts.all fun t => P.readableRec t && decide (t < P.types.size)) = true) {W W' : World} {vs : List Value} {ds : List (DataW H)} {ps : List MemPlace}
    (h : DataW.TrodAll enc P W 0 (fun _ => true) true ts vs ds ps) (hb : Below W.heap.size W W') (hlt : ∀ x ∈ ps, x.block < W.heap.size) :
    DataW.TrodAll enc P W' 0 (fun b => decide (b < W.heap.size)) true ts vs ds ps := by
  induction ts generalizing vs ds ps with
  | nil =>
    cases vs <;> cases ds <;> simp_all [DataW.TrodAll]
  | cons t ts ih =>
    cases vs with
    | nil => cases ds <;> simp_all [DataW.TrodAll]
    | cons v vs =>
      cases ds with
      | nil => simp_all [DataW.TrodAll]
      | cons d ds =>
        obtain ⟨p, q, h1, h2, rfl⟩ := h
        simp only [List.all_cons, Bool.and_eq_true, decide_eq_true_eq] at hr
        exact ⟨p, q, Below.trod hl hr.1.1 hr.1.2 h1 hb (fun x hx => hlt x (by simp [hx])), ih (by simpa using hr.2) h2 (fun x hx => hlt x (by simp [hx])), rfl⟩
end Go.Proofs.YtdjgikcnmokjkaaGreat

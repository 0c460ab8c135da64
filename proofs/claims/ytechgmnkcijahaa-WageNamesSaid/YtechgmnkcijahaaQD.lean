/-
  Contracts of package wage, fourth part: without.
  Contracts of package wage, fifth part: what each weeder can have been paid.
-/
import Derived.WalkKit
import Derived.WalkLawsBesides
import Derived.WalkSpells
import Derived.Outline
import Derived.Handy
import Derived.KernelRfl
import Derived.Lib.Hide
import Derived.Test.YtechgmnkcijahaaQA
import Derived.Test.YtechgmnkcijahaaVA
namespace Go.Proofs.Ytechgmnkcijahaa
open Go.RowKit Go.RG Go.SL Go.Shelf Cou Go.TB
set_option maxHeartbeats 400000
set_option maxRecDepth 10000

abbrev spv (k : Int × Int) : Value := .agg #[iv k.1, iv k.2]

theorem keySpot : KeyT Try.prog 100 spv (fun _ => True) where
  find w x es := run_findKey_eq w (by kernel_rfl) x es
  check b a w _ := by
    unfold Instr.checkKey
    simp [go_sem]
    simp only [check_int9, Result.andThen_ok]
  eq a b w _ _ := by
    unfold Op.equal Op.maxDepth
    simp [go_sem]
    obtain ⟨a1, a2⟩ := a
    obtain ⟨b1, b2⟩ := b
    by_cases h1 : a1 = b1 <;> by_cases h2 : a2 = b2 <;> simp [h1, h2]
  bits a _ := by simp [Instr.sameBits]

theorem tNotes : SliceT Try.prog 32 52 (xv (0, 0, 0)) 3 24 := ⟨Try.underlying32, by kernel_rfl, rfl, by omega⟩

/-- The dues with a number lie in their three cells. -/
theorem dues_cell {w : World} {o : Option Addr} {n c : Nat} {ls : List (List Int)} (h : SlAt 3 w (.slice o n c) ls.length (ls.flatMap intCells)) (h3 : ∀ x ∈ ls, x.length = 3) {k : Nat} (hk : k < ls.length) :
    ∃ b off y0 y1 y2, o = some ⟨b, off, none⟩ ∧ b < w.heap.size ∧ ls[k] = [y0, y1, y2] ∧ w.cell? ⟨b, off + k * 3, none⟩ = some (iv y0) ∧ w.cell? ⟨b, off + k * 3 + 1, none⟩ = some (iv y1) ∧ w.cell? ⟨b, off + k * 3 + 2, none⟩ = some (iv y2) := by
  obtain ⟨hl, o', c', hv, h1, h2, hn, h4⟩ := h
  cases hv
  obtain ⟨y0, y1, y2, hys⟩ := three_of (h3 _ (List.getElem_mem hk))
  cases o with
  | none => have := hn rfl; omega
  | some a =>
    obtain ⟨b, off, sp⟩ := a
    obtain ⟨hs, hc⟩ := h4 _ rfl
    simp only at hs hc
    subst hs
    have g : ∀ j (hj : j < 3), (ls.flatMap intCells)[k * 3 + j]? = [iv y0, iv y1, iv y2][j]? := fun j hj => by
      have : ∀ (ls : List (List Int)) (k : Nat) (hk : k < ls.length), (∀ x ∈ ls, x.length = 3) → (ls.flatMap intCells)[k * 3 + j]? = (intCells ls[k])[j]? := by
        intro ls
        induction ls with
        | nil => intro k hk; simp at hk
        | cons x ls ih =>
          intro k hk h3
          have hx : (intCells x).length = 3 := by simp [intCells, h3 x (by simp)]
          rw [List.flatMap_cons]
          cases k with
          | zero => simp only [Nat.zero_mul, Nat.zero_add, List.getElem_cons_zero]; rw [List.getElem?_append_left (by omega)]
          | succ k =>
            rw [List.getElem?_append_right (by omega), hx, show (k + 1) * 3 + j - 3 = k * 3 + j from by omega]
            simpa using ih k (by simpa using hk) (fun y hy => h3 y (by simp [hy]))
      rw [this ls k hk h3, hys]
      rfl
    have r0 := hc (k * 3 + 0) (iv y0) (by rw [g 0 (by omega)]; rfl)
    have r1 := hc (k * 3 + 1) (iv y1) (by rw [g 1 (by omega)]; rfl)
    have r2 := hc (k * 3 + 2) (iv y2) (by rw [g 2 (by omega)]; rfl)
    rw [Nat.add_zero] at r0
    rw [← Nat.add_assoc] at r1 r2
    exact ⟨b, off, y0, y1, y2, rfl, World.block_lt_of_cell? w _ r0, hys, r0, r1, r2⟩

theorem LwAt.lt {W : World} {wb mb : Nat} {l : LedgerD} {tv nv v : Value} {ls : List (List Int)} (h : LwAt W wb mb l tv nv v ls) : wb < W.heap.size := (Array.getElem?_eq_some_iff.1 h.cells).1
theorem LwAt.below {W W' : World} {wb mb : Nat} {l : LedgerD} {tv nv v : Value} {ls : List (List Int)} (h : LwAt W wb mb l tv nv v ls) {B : Nat} (hb : Below B W W') (hB : W.heap.size ≤ B) : LwAt W' wb mb l tv nv v ls :=
  ⟨(hb.block _ (by have := h.lt; omega)).trans h.cells, h.tal.below hb hB, h.notes.below hb hB, h.truth.below hb hB⟩
/-- A block without cells turns: lists stay. -/
theorem LwAt.table {W W' : World} {wb mb : Nat} {l : LedgerD} {tv nv v : Value} {ls : List (List Int)} (h : LwAt W wb mb l tv nv v ls) (hE : Ext [mb] W W') (hn : ∀ o, W.cell? ⟨mb, o, none⟩ = none) : LwAt W' wb mb l tv nv v ls := by
  have hm : ∀ x ∈ [mb], ∀ o, W.cell? ⟨x, o, none⟩ = none := fun x hx o => by have e : x = mb := (by simpa using hx); rw [e]; exact hn o
  refine ⟨(hE.block _ h.lt (fun e => ?_)).trans h.cells, h.tal.ext_other hE hm, h.notes.ext_other hE hm, h.truth.ext_other hE hm⟩
  have e : wb = mb := by simpa using e
  have := hn 0
  rw [← e] at this
  simp [World.cell?, h.cells] at this

/-- A store of cells. -/
theorem does_skip {P : Program} {o : Oper} {ρ : Operand → Value} {W W' : World} {R : Value → World → Prop} (he : (execOp ρ o).run P W = .ok .skip W') (h : R undef W') : Does P o ρ W R := by
  unfold Does; rw [he]; exact h

theorem ext_news {mb : Nat} {w W W' : World} (h : Ext [mb] w W) (hb : Below w.heap.size W W') : Ext [mb] w W' :=
  ⟨hb.os.trans h.os, hb.tape.trans h.tape, hb.output.trans h.output, Nat.le_trans h.size hb.size, fun k hk hm => (hb.block k hk).trans (h.block k hk hm)⟩

/-- What the table holds while it is filled. -/
structure FillT (ns : List Rdg) (T : List ((Int × Int) × Rng)) (done : List (Int × Int)) : Prop where
  only : ∀ key r, TB.look key T = some r → r = kn ns key
  has : ∀ key ∈ done, ∃ r, TB.look key T = some r
theorem FillT.nil (ns : List Rdg) : FillT ns [] [] := ⟨fun key r h => (by cases h), fun key h => (by cases h)⟩
theorem FillT.new {ns : List Rdg} {T : List ((Int × Int) × Rng)} {done : List (Int × Int)} (h : FillT ns T done) (key : Int × Int) : FillT ns (TB.store key (kn ns key) T) (done ++ [key]) := by
  refine ⟨fun k r hl => ?_, fun k hk => ?_⟩
  · rw [look_store] at hl
    split at hl
    · rename_i e; cases hl; rw [e]
    · exact h.only k r hl
  · rw [look_store]
    by_cases e : k = key
    · exact ⟨_, if_pos e⟩
    · rw [if_neg e]
      rcases List.mem_append.1 hk with h1 | h1
      · exact h.has k h1
      · exact absurd (by simpa using h1) e
theorem FillT.old {ns : List Rdg} {T : List ((Int × Int) × Rng)} {done : List (Int × Int)} (h : FillT ns T done) (key : Int × Int) {r : Rng} (hl : TB.look key T = some r) : FillT ns T (done ++ [key]) :=
  ⟨h.only, fun k hk => by
    rcases List.mem_append.1 hk with h1 | h1
    · exact h.has k h1
    · have : k = key := by simpa using h1
      rw [this]; exact ⟨r, hl⟩⟩

/-- What is known of all dues, weeder by weeder. -/
def keysOf (d : List Int) (i : Nat) : List (Int × Int) := (List.range i).map fun (j : Nat) => ((j : Int), d.getD j 0)
def keysTo (n : Nat) (ls : List (List Int)) (k : Nat) : List (Int × Int) := (ls.take k).flatMap fun d => keysOf d n
theorem keysTo_succ {n : Nat} {ls : List (List Int)} {k : Nat} (hk : k < ls.length) : keysTo n ls (k + 1) = keysTo n ls k ++ keysOf ls[k] n := by
  unfold keysTo
  rw [List.take_succ_eq_append_getElem hk, List.flatMap_append]
  simp
theorem keysOf_succ (d : List Int) (i : Nat) : keysOf d (i + 1) = keysOf d i ++ [((i : Int), d.getD i 0)] := by
  unfold keysOf
  rw [List.range_succ, List.map_append]
  rfl

set_option maxHeartbeats 4000000 in
theorem without_any (l : LedgerD) (hS : SoundF l.field) (h5 : l.notes.length ≤ 5) (tv nv v ov : Value) (out : List Int) (wb mb : Nat) (ls : List (List Int)) (T0 : List ((Int × Int) × Rng)) (w : World) (hw : LwAt w wb mb l tv nv v ls) (hT : TabAt spv rv (fun _ => True) w mb T0)
    (ho : IntsAt w ov out) (h3 : ∀ x ∈ ls, x.length = 3) (hlen : ls.length ≤ 2500) :
    Calls Try.prog 51 #[.pointer (some ⟨wb, 0, none⟩), ov] w (fun e w' => (∃ u, e = .returned u) ∧ Ext [mb] w w' ∧ ∃ T, TabAt spv rv (fun _ => True) w' mb T ∧ FillT (leftL l out) T (keysTo l.field.weeders.toNat ls ls.length)) := by
  obtain ⟨on, cn, rfl⟩ := hw.notes.open
  obtain ⟨ot, ct, rfl⟩ := hw.tal.open
  obtain ⟨vo, vc, rfl⟩ := hw.truth.open
  obtain ⟨oo, oc, rfl⟩ := ho.open
  have hwn := hw.lt
  have hmb := hT.lt
  have hnoc := hT.noCell
  obtain ⟨c1, f1, l1⟩ := cells_of_block hw.cells
  obtain ⟨W1, hrun, hT1, hE1⟩ := clear_run (P := Try.prog) (kv := spv) (vv := rv) (ok := fun _ => True) (mt := 75) (k := 100) (e := 31) (by kernel_rfl) 0 hT
  have hw1 := hw.table hE1 hnoc
  have hm1 : ∀ x ∈ [mb], ∀ o, w.cell? ⟨x, o, none⟩ = none := fun x hx o => by have e : x = mb := (by simpa using hx); rw [e]; exact hnoc o
  have ho1 := ho.ext_other hE1 hm1
  have hwm : wb ≠ mb := hT.ne hw.cells
  have HO := Lib.hid (And.intro ho ho1)
  have HW := Lib.hid hw
  have HW1 := Lib.hid hw1
  have HT1 := Lib.hid (And.intro hT1 hE1)
  have H3 := Lib.hid h3
  have hw0 := hS.weed0
  have hw3 := hS.weed1
  obtain ⟨n, hn⟩ : ∃ n : Nat, l.field.weeders = n := ⟨l.field.weeders.toNat, by omega⟩
  have HN := Lib.hid hn
  have hn3 : n ≤ 3 := by omega
  have hnt : l.field.weeders.toNat = n := by omega
  rw [hnt]
  clear hw hT ho hw1 hT1 hE1 hS hn hnt hw0 hw3 hm1 h3
  go_enter Try.func51, Try.ntmps51
  go_upto_region 2 with (fail)
  obtain ⟨c1', f1', l1'⟩ := cells_of_block HW1.out.cells
  have hmb1 := HT1.out.1.lt
  have hsz1 := HT1.out.2.size
  clear c1 f1 hrun
  go_wp2_with fail
  go_loopw [4, 26] (fun v4 u wr => ∃ k : Nat, k ≤ l.notes.length ∧ u = .int .i64 k ∧ (∃ lo lc, v4 = .slice lo (leftTo l out k).length lc ∧ wr.ownsRow W1.heap.size 52 3 (.slice lo (leftTo l out k).length lc) (leftTo l out k).length (tripleCells (leftTo l out k))) ∧ Below W1.heap.size W1 wr) (fun _ u _ => l.notes.length - (intOf u).toNat)
  case atStart => exact ⟨0, Nat.zero_le _, rfl, ⟨none, 0, rfl, ⟨rfl, .inl ⟨rfl, rfl⟩⟩⟩, Below.refl _ _⟩
  case round =>
    obtain ⟨k, hk, rfl, ⟨lo, lc, rfl, how⟩, hB⟩ := hrel
    have hwr := HW1.out.below hB (Nat.le_refl _)
    by_cases hlt : k < l.notes.length
    · obtain ⟨b, off, hvv, hb, hc0, hc1, hc2⟩ := TriplesAt.cell hwr.notes hlt
      cases hvv
      have hgk : l.notes.getD k (0, (0, 0)) = l.notes[k] := by simp [List.getD, hlt]
      have hcon := contains_any out (.slice oo out.length oc) (k : Int)
      obtain ⟨q, hq⟩ : ∃ q, out.contains (k : Int) = q := ⟨_, rfl⟩
      rw [hq] at hcon
      have hll := leftTo_len l out k
      have HC := Lib.hid hcon
      have HQ := Lib.hid (And.intro hq hgk)
      have HOW := Lib.hid (And.intro how hB)
      generalize l.notes[k] = x at *
      clear hwr how hB hcon hq hgk
      cases q
      · have hsu := leftTo_yes (l := l) HQ.out.1
        rw [HQ.out.2] at hsu
        have HSU := Lib.hid hsu
        clear hsu
        go_upto_region 5 with (fail)
        refine gworld fun W5 hW5 => ?_
        have hB5 : Below wr.heap.size wr W5 := by rw [hW5]; exact (by repeat (first | exact Below.refl _ _ | assumption | refine bgo ?_ (by assumption) | refine bgoAlloc ?_ _ | refine bgoDrew ?_ | refine bgoSet ?_ (by simp; omega) _))
        have hk5 : W5.heap[wr.heap.size]? = some (.cells #[iv x.1, iv x.2.1, iv x.2.2] 52 (0, 0)) := by rw [hW5]; exact heap_new0 _ _
        have hiv := HO.out.2.below (bgo HOW.out.2 hB5) (Nat.le_refl _)
        have HB5 := Lib.hid (And.intro hB5 (And.intro hk5 hiv))
        clear hW5 hB5 hk5 hiv hc0 hc1 hc2 hb
        go_wp2_with fail
        refine (HC.out W5 HB5.out.2.2).mono ?_
        rintro e W6 ⟨rfl, hb6⟩
        have hk6 := (hb6.block _ (Array.getElem?_eq_some_iff.1 HB5.out.2.1).1).trans HB5.out.2.1
        obtain ⟨e1, e2, e3⟩ := cells_of_block hk6
        have HB6 := Lib.hid (bgo (bgo HOW.out.2 HB5.out.1) hb6)
        have ho6 := owns_ext (Ms := []) (owns_ext (Ms := []) HOW.out.1 (Ext.of_below HB5.out.1) (by simp)) (Ext.of_below hb6) (by simp)
        have HO6 := Lib.hid ho6
        clear hb6 hk6 ho6
        go_wp2_with (at_builtin; refine wpList_append rfl _ _ tNotes rfl W1.heap.size (.slice lo (leftTo l out k).length lc) (leftTo l out k).length (tripleCells (leftTo l out k)) rfl ?_ (.slice (some ⟨W6.heap.size, 0, none⟩) 1 1) 1 [iv x.1, iv x.2.1, iv x.2.2] rfl ?_ (by simp [Value.oneCell']) (by omega) (by omega) (by have := HB6.out.size; simp; omega) ?_)
        · exact owns_ext (Ms := []) HO6.out (Ext.of_below ((Below.refl _ _).alloc (Nat.le_refl _) _)) (by simp)
        · exact SlAt.of_block 3 1 (heap_new0 _ _) rfl (by decide)
        · intro v' W7 hown hgr
          obtain ⟨o7, c7, rfl⟩ := owns_slice hown
          have HO7 := Lib.hid hown
          have HG7 := Lib.hid hgr
          clear hown hgr
          go_wp2_with fail
          go_roundw
          case rel =>
            refine ⟨k + 1, by omega, by go_num, ⟨o7, c7, by rw [HSU.out]; simp, ?_⟩, ?_⟩
            · rw [HSU.out]
              have := HO7.out
              simpa [tripleCells, List.flatMap_append] using this
            · exact Below.grown (bgoAlloc HB6.out _) HG7.out (by have := HB6.out.size; simp; omega) (fun k e => (owns_ge HO6.out k e).1)
          case measure => simp [intOf]; omega
      · have hsu := leftTo_no (l := l) HQ.out.1
        have HSU := Lib.hid hsu
        clear hsu
        go_upto_region 5 with (fail)
        refine gworld fun W5 hW5 => ?_
        have hB5 : Below wr.heap.size wr W5 := by rw [hW5]; exact (by repeat (first | exact Below.refl _ _ | assumption | refine bgo ?_ (by assumption) | refine bgoAlloc ?_ _ | refine bgoDrew ?_ | refine bgoSet ?_ (by simp; omega) _))
        have hiv := HO.out.2.below (bgo HOW.out.2 hB5) (Nat.le_refl _)
        have HB5 := Lib.hid (And.intro hB5 hiv)
        clear hW5 hB5 hiv hc0 hc1 hc2 hb
        go_wp2_with fail
        refine (HC.out W5 HB5.out.2).mono ?_
        rintro e W6 ⟨rfl, hb6⟩
        have HB6 := Lib.hid (bgo (bgo HOW.out.2 HB5.out.1) hb6)
        have ho6 := owns_ext (Ms := []) (owns_ext (Ms := []) HOW.out.1 (Ext.of_below HB5.out.1) (by simp)) (Ext.of_below hb6) (by simp)
        have HO6 := Lib.hid ho6
        clear hb6 ho6
        go_wp2_with fail
        go_roundw
        case rel => exact ⟨k + 1, by omega, by go_num, ⟨lo, lc, by rw [HSU.out], by rw [HSU.out]; exact HO6.out⟩, HB6.out⟩
        case measure => simp [intOf]; omega
    · have hkl : k = l.notes.length := by omega
      subst hkl
      have hll := leftTo_len l out l.notes.length
      have hEw : Ext [mb] w wr := ext_news HT1.out.2 (hB.mono hsz1)
      have HOW := Lib.hid (And.intro how hB)
      have HEW := Lib.hid hEw
      have HT := Lib.hid (HT1.out.1.below hB (Nat.le_refl _))
      have HWR := Lib.hid hwr
      have hwl := hwr.lt
      obtain ⟨d1, g1, m1⟩ := cells_of_block hwr.cells
      obtain ⟨ns, hns⟩ : ∃ ns, leftTo l out l.notes.length = ns := ⟨_, rfl⟩
      have hnsl : leftL l out = ns := hns
      have HNS := Lib.hid hnsl
      rw [hns] at hll HOW
      rw [hns]
      clear how hB hwr hEw hns hnsl c1' f1'
      have hnoc2 := HT.out.noCell
      have hleft : TriplesAt wr (.slice lo ns.length lc) ns := SlAt.of_owns HOW.out.1
      have HLF := Lib.hid hleft
      have hmbw := HT.out.lt
      have hKEEP : Hid (∀ W, Ext [mb] wr W → LwAt W wb mb l (.slice ot l.field.tallies.length ct) (.slice on l.notes.length cn) (.slice vo ls.length vc) ls ∧ TriplesAt W (.slice lo ns.length lc) ns) := Lib.hid (fun W hE => ⟨HWR.out.table hE hnoc2, HLF.out.ext_other hE (fun x hx o => by have e : x = mb := (by simpa using hx); rw [e]; exact hnoc2 o)⟩)
      have HWS := Lib.hid HOW.out.2.size
      have hLO : ∀ g, (Value.slice lo ns.length lc).ownBlock = some g → g < wr.heap.size := fun g hg => (owns_ge HOW.out.1 g hg).2
      clear hleft hnoc hnoc2
      obtain ⟨W2, hW2⟩ : ∃ W2, wr = W2 := ⟨_, rfl⟩
      rw [hW2] at hKEEP HT HEW hLO
      have HLO := Lib.hid hLO
      clear hLO
      have HB2 : Hid (Ext [mb] W2 wr) := Lib.hid (by rw [hW2]; exact Ext.refl _ _)
      have HTW : Hid (TabAt spv rv (fun _ => True) wr mb ([] : List ((Int × Int) × Rng))) := Lib.hid (by rw [hW2]; exact HT.out)
      clear hW2
      go_wp2_with fail
      go_loopw [45] (fun u wr => ∃ k : Nat, k ≤ ls.length ∧ u = .int .i64 k ∧ Ext [mb] W2 wr ∧ ∃ T, TabAt spv rv (fun _ => True) wr mb T ∧ FillT ns T (keysTo n ls k)) (fun u _ => ls.length - (intOf u).toNat)
      case atStart => exact ⟨0, Nat.zero_le _, rfl, HB2.out, [], HTW.out, FillT.nil _⟩
      case round =>
        obtain ⟨k, hk, rfl, hE, T, hT, hFl⟩ := hrel
        obtain ⟨hwr, hlf⟩ := hKEEP.out _ hE
        by_cases hlt : k < ls.length
        · obtain ⟨d1, g1, m1⟩ := cells_of_block hwr.cells
          obtain ⟨b, off, y0, y1, y2, hvv, hb, hys, r0, r1, r2⟩ := dues_cell hwr.truth H3.out hlt
          subst hvv
          have hks := keysTo_succ (n := n) hlt
          generalize ls[k] = d at *
          have HKS := Lib.hid hks
          have HYS := Lib.hid hys
          have HX := Lib.hid (And.intro hE (And.intro hT hFl))
          clear hks hys hE hT hFl hwr hlf
          go_upto_region 11 with (fail)
          refine gworld fun W3 hW3 => ?_
          have hB3 : Below wr.heap.size wr W3 := by rw [hW3]; exact (by repeat (first | exact Below.refl _ _ | assumption | refine bgo ?_ (by assumption) | refine bgoAlloc ?_ _ | refine bgoDrew ?_ | refine bgoSet ?_ (by simp; omega) _))
          have hk8 : W3.heap[wr.heap.size]? = some (.cells #[iv y0, iv y1, iv y2] 79 (0, 0)) := by rw [hW3]; exact heap_new0 _ _
          have hE3 : Ext [mb] W2 W3 := HX.out.1.trans (Ext.of_below hB3)
          have hT3 := HX.out.2.1.below hB3 (Nat.le_refl _)
          obtain ⟨hw3', hlf3⟩ := hKEEP.out _ hE3
          obtain ⟨b8, hb8⟩ : ∃ b8, wr.heap.size = b8 := ⟨_, rfl⟩
          rw [hb8] at hk8
          rw [hb8]
          have hmb8 : mb ≠ b8 := by have := HX.out.2.1.lt; omega
          have HX3 := Lib.hid (And.intro hE3 (And.intro hT3 (And.intro HX.out.2.2 hk8)))
          clear hW3 d1 g1 m1 r0 r1 r2 hb hB3 hE3 hT3 hb8 HX
          obtain ⟨d1, g1, m1⟩ := cells_of_block hw3'.cells
          clear hw3' hlf3 hk8
          go_wp2_with fail
          rw [HN.out]
          go_loopw [55] (fun u wr => ∃ i : Nat, i ≤ n ∧ u = .int .i64 i ∧ Ext [mb] W3 wr ∧ ∃ T, TabAt spv rv (fun _ => True) wr mb T ∧ FillT ns T (keysTo n ls k ++ keysOf d i)) (fun u _ => n - (intOf u).toNat)
          case atStart => exact ⟨0, Nat.zero_le _, rfl, Ext.refl _ _, T, HX3.out.2.1, by have := HX3.out.2.2.1; simpa [keysOf] using this⟩
          case round =>
            obtain ⟨i, hi, rfl, hE, T, hT, hFl⟩ := hrel
            by_cases hlti : i < n
            · have hE2 := HX3.out.1.trans hE
              have hk8 := (hE.block _ (Array.getElem?_eq_some_iff.1 HX3.out.2.2.2).1 (by simpa using fun e => hmb8 e.symm)).trans HX3.out.2.2.2
              have hk8' : wr.heap[b8]? = some (.cells (intCells d).toArray 79 (0, 0)) := by rw [HYS.out]; exact hk8
              have hd3 : d.length = 3 := by rw [HYS.out]; rfl
              have hcell := cell_of_ints hk8' (show i < d.length by omega)
              have hgd : d.getD i 0 = d[i]'(by omega) := by simp [List.getD, hd3, show i < 3 by omega]
              have hkk := keysOf_succ d i
              rw [hgd] at hkk
              generalize hdi : d[i]'(by omega) = di at *
              have HDI : Hid (∀ h, d[i]'h = di) := Lib.hid (fun _ => hdi)
              clear hdi
              have hb8l := (Array.getElem?_eq_some_iff.1 hk8).1
              have hi3 : i < 3 := by omega
              have HKK := Lib.hid hkk
              have HX := Lib.hid (And.intro hE (And.intro hT (And.intro hFl hk8)))
              clear hkk hE hT hFl hgd hd3 hk8 hk8' hE2
              go_upto_region 15 with (fail)
              refine gworld fun W6 hW6 => ?_
              have hB6 : Below wr.heap.size wr W6 := by rw [hW6]; exact (by repeat (first | exact Below.refl _ _ | assumption | refine bgo ?_ (by assumption) | refine bgoAlloc ?_ _ | refine bgoDrew ?_ | refine bgoSet ?_ (by simp; omega) _))
              have hk10 : W6.heap[wr.heap.size]? = some (.cells #[iv (i : Int), iv di] 100 (0, 0)) := by rw [hW6]; exact heap_new0 _ _
              have hE6 : Ext [mb] W3 W6 := HX.out.1.trans (Ext.of_below hB6)
              have hT6 := HX.out.2.1.below hB6 (Nat.le_refl _)
              have hk86 := (hB6.block _ hb8l).trans HX.out.2.2.2
              obtain ⟨hw6, hlf6⟩ := hKEEP.out _ (HX3.out.1.trans hE6)
              have hlook := fun cm W hW => look_run keySpot (mt := 75) (e := 31) (by kernel_rfl) (z := rv (0, 0)) (fun W => by simp [go_sem]) hT6 ((i : Int), di) trivial cm W hW
              obtain ⟨b10, hb10⟩ : ∃ b10, wr.heap.size = b10 := ⟨_, rfl⟩
              rw [hb10] at hk10
              rw [hb10]
              have hb8' : b8 < b10 := by omega
              have hmb10 : mb < b10 := by have := HX.out.2.1.lt; omega
              have HT6 := Lib.hid hT6
              have HX6 := Lib.hid (And.intro hE6 (And.intro hk86 (And.intro hk10 (And.intro hw6 hlf6))))
              obtain ⟨e1, e2, e3⟩ := cells_of_block hw6.cells
              obtain ⟨e4, e5, e6⟩ := cells_of_block hk10
              obtain ⟨lk, hlk⟩ : ∃ lk, TB.look ((i : Int), di) T = lk := ⟨_, rfl⟩
              rw [hlk] at hlook
              have HLKE := Lib.hid hlk
              clear hW6 hcell hB6 hE6 hT6 hk86 hw6 hlf6 hk10 hb10 d1 g1 m1 hlk
              cases lk with
              | some r =>
                have HLK := Lib.hid (hlook true)
                simp only [Option.map_some, Option.getD_some, Option.isSome_some, if_true] at HLK
                clear hlook
                refine wp_region_rgP 11 [] (some 10) [(9, ⟨fun _ v => ∃ b : Nat, v = .pointer (some ⟨b, 0, none⟩), fun _ _ _ => True⟩), (10, ⟨fun _ v => v = undef, fun _ _ _ => True⟩)] (fun i _ v W => match i with | 9 => ∃ b : Nat, v = .pointer (some ⟨b, 0, none⟩) ∧ W6.heap.size ≤ b ∧ W.heap[b]? = some (.cells #[iv 0, iv 0] 31 (0, 0)) | _ => True) (by kernel_rfl) (by kernel_rfl) ?_
                simp only [List.take_succ_cons, List.take_zero, List.drop_succ_cons, List.drop_zero]
                repeat (first | (refine tree_det (by rfl) _ (by rfl) (fun W hW => by go_simp; (try simp (disch := omega) only [IntWalk.i64_in]); try rfl) ?_; simp only [Act.put, List.setIfInBounds_toArray, List.set_cons_succ, List.set_cons_zero]) | (refine tree_skip (by rfl) (by rfl) ?_; simp only [Act.put, List.setIfInBounds_toArray, List.set_cons_succ, List.set_cons_zero]))
                refine tree_det_on (by rfl) (.tuple #[.agg #[iv r.1, iv r.2], .bool true]) (by rfl) (fun W hE _ => by have := HLK.out W (hE.block mb (HT6.out.lt) (by simp)); go_simp; try rfl) ?_
                simp only [Act.put, List.setIfInBounds_toArray, List.set_cons_succ, List.set_cons_zero]
                repeat (first | (refine tree_det (by rfl) _ (by rfl) (fun W hW => by go_simp; (try simp (disch := omega) only [IntWalk.i64_in]); try rfl) ?_; simp only [Act.put, List.setIfInBounds_toArray, List.set_cons_succ, List.set_cons_zero]) | (refine tree_skip (by rfl) (by rfl) ?_; simp only [Act.put, List.setIfInBounds_toArray, List.set_cons_succ, List.set_cons_zero]))
                refine tree_pre _ (by rfl) (by rfl) (by exact ⟨_, 0, rfl⟩) (fun Wa hE hF hG => ?_) (fun _ _ _ _ _ => trivial) (fun v Wa Wb ho hE => ?_) (fun v hv => ?_)
                · exact does_value (W' := Wa.alloc (.cells #[iv 0, iv 0] 31)) (.pointer (some ⟨Wa.heap.size, 0, none⟩)) (by go_simp; try rfl) ⟨⟨_, rfl⟩, trivial, Ext.of_below ((Below.refl _ _).alloc (Nat.le_refl _) _), _, rfl, (show ExtN W6.heap.size [] W6 Wa from hE).size, heap_alloc_new _ _⟩
                · obtain ⟨b, hb, hge, hc⟩ := ho
                  exact ⟨b, hb, hge, (hE.block b (Array.getElem?_eq_some_iff.1 hc).1 (by simp)).trans hc⟩
                obtain ⟨b11, rfl⟩ := hv
                simp only [Act.put, List.setIfInBounds_toArray, List.set_cons_succ, List.set_cons_zero]
                refine tree_pre _ (by rfl) (by rfl) (by exact ⟨_, rfl⟩) (fun Wa hE hF hG => ?_) (fun _ _ _ _ _ => trivial) (fun _ _ _ _ _ => trivial) (fun v hv => ?_)
                · obtain ⟨b, hb, hge, hc⟩ := hG rfl _ (List.Mem.head _) (by kernel_rfl)
                  cases hb
                  obtain ⟨x1, x2, x3⟩ := cells_of_block hc
                  exact does_skip (W' := (Wa.setCell ⟨b11, 0, none⟩ (iv r.1)).setCell ⟨b11, 1, none⟩ (iv r.2)) (by go_simp; try rfl) ⟨rfl, trivial, ⟨rfl, rfl, rfl, by simp [World.setCell], fun k' hk' hkB _ => (Below.heap_setCell _ _ _ _ (by show k' ≠ b11; omega)).trans (Below.heap_setCell _ _ _ _ (by show k' ≠ b11; omega))⟩, trivial⟩
                obtain rfl : v = undef := hv
                simp only [Act.put]
                intro W15 hE15 _
                have hB15 : Below W6.heap.size W6 W15 := below_extN hE15 (Nat.le_refl _)
                have hE15' : Ext [mb] W3 W15 := HX6.out.1.trans (Ext.of_below hB15)
                have hT15 := HT6.out.below hB15 (Nat.le_refl _)
                have H15 := Lib.hid (And.intro hE15' (And.intro hT15 (HKK.out ▸ (List.append_assoc _ _ _ ▸ HX.out.2.2.1.old _ HLKE.out : FillT ns T (keysTo n ls k ++ (keysOf d i ++ [((i : Int), di)]))))))
                clear hE15 hB15 hE15' hT15 e1 e2 e3 e4 e5 e6
                go_wp2_with fail
                go_roundw
                case rel => exact ⟨i + 1, by omega, by go_num, H15.out.1, T, H15.out.2.1, H15.out.2.2⟩
                case measure => simp [intOf]; omega
              | none =>
                have HLK := Lib.hid (hlook true)
                simp only [Option.map_none, Option.getD_none, Option.isSome_none, if_true] at HLK
                clear hlook
                refine wp_region_rgP 11 [] (some 10) [(9, ⟨fun _ v => ∃ b : Nat, v = .pointer (some ⟨b, 0, none⟩), fun _ _ _ => True⟩), (10, ⟨fun _ v => v = undef, fun _ _ _ => True⟩)] (fun i _ v W => match i with | 9 => ∃ b : Nat, v = .pointer (some ⟨b, 0, none⟩) ∧ W6.heap.size ≤ b ∧ W.heap[b]? = some (.cells #[iv 0, iv 0] 31 (0, 0)) | _ => True) (by kernel_rfl) (by kernel_rfl) ?_
                simp only [List.take_succ_cons, List.take_zero, List.drop_succ_cons, List.drop_zero]
                repeat (first | (refine tree_det (by rfl) _ (by rfl) (fun W hW => by go_simp; (try simp (disch := omega) only [IntWalk.i64_in]); try rfl) ?_; simp only [Act.put, List.setIfInBounds_toArray, List.set_cons_succ, List.set_cons_zero]) | (refine tree_skip (by rfl) (by rfl) ?_; simp only [Act.put, List.setIfInBounds_toArray, List.set_cons_succ, List.set_cons_zero]))
                refine tree_det_on (by rfl) (.tuple #[.agg #[iv 0, iv 0], .bool false]) (by rfl) (fun W hE _ => by have := HLK.out W (hE.block mb (HT6.out.lt) (by simp)); go_simp; try rfl) ?_
                simp only [Act.put, List.setIfInBounds_toArray, List.set_cons_succ, List.set_cons_zero]
                repeat (first | (refine tree_det (by rfl) _ (by rfl) (fun W hW => by go_simp; (try simp (disch := omega) only [IntWalk.i64_in]); try rfl) ?_; simp only [Act.put, List.setIfInBounds_toArray, List.set_cons_succ, List.set_cons_zero]) | (refine tree_skip (by rfl) (by rfl) ?_; simp only [Act.put, List.setIfInBounds_toArray, List.set_cons_succ, List.set_cons_zero]))
                refine tree_pre _ (by rfl) (by rfl) (by exact ⟨_, 0, rfl⟩) (fun Wa hE hF hG => ?_) (fun _ _ _ _ _ => trivial) (fun v Wa Wb ho hE => ?_) (fun v hv => ?_)
                · exact does_value (W' := Wa.alloc (.cells #[iv 0, iv 0] 31)) (.pointer (some ⟨Wa.heap.size, 0, none⟩)) (by go_simp; try rfl) ⟨⟨_, rfl⟩, trivial, Ext.of_below ((Below.refl _ _).alloc (Nat.le_refl _) _), _, rfl, (show ExtN W6.heap.size [] W6 Wa from hE).size, heap_alloc_new _ _⟩
                · obtain ⟨b, hb, hge, hc⟩ := ho
                  exact ⟨b, hb, hge, (hE.block b (Array.getElem?_eq_some_iff.1 hc).1 (by simp)).trans hc⟩
                obtain ⟨b11, rfl⟩ := hv
                simp only [Act.put, List.setIfInBounds_toArray, List.set_cons_succ, List.set_cons_zero]
                refine tree_pre _ (by rfl) (by rfl) (by exact ⟨_, rfl⟩) (fun Wa hE hF hG => ?_) (fun _ _ _ _ _ => trivial) (fun _ _ _ _ _ => trivial) (fun v hv => ?_)
                · obtain ⟨b, hb, hge, hc⟩ := hG rfl _ (List.Mem.head _) (by kernel_rfl)
                  cases hb
                  obtain ⟨x1, x2, x3⟩ := cells_of_block hc
                  exact does_skip (W' := (Wa.setCell ⟨b11, 0, none⟩ (iv 0)).setCell ⟨b11, 1, none⟩ (iv 0)) (by go_simp; try rfl) ⟨rfl, trivial, ⟨rfl, rfl, rfl, by simp [World.setCell], fun k' hk' hkB _ => (Below.heap_setCell _ _ _ _ (by show k' ≠ b11; omega)).trans (Below.heap_setCell _ _ _ _ (by show k' ≠ b11; omega))⟩, trivial⟩
                obtain rfl : v = undef := hv
                simp only [Act.put]
                intro W15 hE15 _
                have hB15 : Below W6.heap.size W6 W15 := below_extN hE15 (Nat.le_refl _)
                have hE15' : Ext [mb] W3 W15 := HX6.out.1.trans (Ext.of_below hB15)
                have hT15 := HT6.out.below hB15 (Nat.le_refl _)
                have hk815 := (hB15.block _ (Array.getElem?_eq_some_iff.1 HX6.out.2.1).1).trans HX6.out.2.1
                have hk1015 := (hB15.block _ e6).trans HX6.out.2.2.1
                have hcell := cell_of_ints (show W15.heap[b8]? = some (.cells (intCells d).toArray 79 (0, 0)) by rw [HYS.out]; exact hk815) (show i < d.length by rw [HYS.out]; simpa using hi3)
                rw [HDI.out] at hcell
                obtain ⟨hw15, hlf15⟩ := hKEEP.out _ (HX3.out.1.trans hE15')
                obtain ⟨e1, e2, e3⟩ := cells_of_block hw15.cells
                have hb8s := (Array.getElem?_eq_some_iff.1 hk815).1
                have hs15 := hB15.size
                have H15 := Lib.hid (And.intro hE15' (And.intro hT15 (And.intro hk815 hk1015)))
                clear hE15 hB15 hE15' hT15 hk815 hk1015 hw15 hlf15 e4 e5
                go_upto_region 18 with (fail)
                refine gworld fun W17 hW17 => ?_
                have hB17 : Below W15.heap.size W15 W17 := by rw [hW17]; exact (by repeat (first | exact Below.refl _ _ | assumption | refine bgo ?_ (by assumption) | refine bgoAlloc ?_ _ | refine bgoDrew ?_ | refine bgoSet ?_ (by simp; omega) _))
                have hk13 : W17.heap[W15.heap.size]? = some (.cells #[iv 0, iv di] 31 (0, 0)) := by rw [hW17]; exact heap_new0 _ _
                obtain ⟨b13, hb13⟩ : ∃ b13, W15.heap.size = b13 := ⟨_, rfl⟩
                rw [hb13] at hk13
                rw [hb13]
                have hE17 : Ext [mb] W3 W17 := H15.out.1.trans (Ext.of_below hB17)
                have hT17 := H15.out.2.1.below hB17 (Nat.le_refl _)
                have hk1017 := (hB17.block _ (Array.getElem?_eq_some_iff.1 H15.out.2.2.2).1).trans H15.out.2.2.2
                obtain ⟨hw17, hlf17⟩ := hKEEP.out _ (HX3.out.1.trans hE17)
                have q10 : b10 < b13 := by omega
                have qmb : mb < b13 := by omega
                have qW3 : W3.heap.size ≤ b13 := by have := H15.out.1.size; omega
                have qW2 : W2.heap.size ≤ b13 := by have := HX3.out.1.size; have := H15.out.1.size; omega
                have qwb : wb < b13 := by have := hwl; have := HX3.out.1.size; have := hE17.size; omega
                have hk0 : knTo ns ((i : Int), di) 0 = (0, di) := rfl
                have H17 := Lib.hid (And.intro hE17 (And.intro hT17 (And.intro hk1017 (And.intro hw17 hlf17))))
                have hk13' : W17.heap[b13]? = some (.cells #[iv (knTo ns ((i : Int), di) 0).1, iv (knTo ns ((i : Int), di) 0).2] 31 (0, 0)) := hk13
                clear hW17 hB17 hE17 hT17 hk1017 hw17 hlf17 hk13 hcell e1 e2 e3 hs15 hb8s e6 hb13 hk0
                go_wp2_with fail
                go_loopw [79] (fun u wr => ∃ j : Nat, j ≤ ns.length ∧ u = .int .i64 j ∧ wr.heap[b13]? = some (.cells #[iv (knTo ns ((i : Int), di) j).1, iv (knTo ns ((i : Int), di) j).2] 31 (0, 0)) ∧ Ext [b13] W17 wr) (fun u _ => ns.length - (intOf u).toNat)
                case atStart => exact ⟨0, Nat.zero_le _, rfl, hk13', Ext.refl _ _⟩
                case round =>
                  obtain ⟨j, hj, rfl, hkr, hEr⟩ := hrel
                  obtain ⟨x1, x2, x3⟩ := cells_of_block hkr
                  by_cases hltj : j < ns.length
                  · have hlfr := H17.out.2.2.2.2.ext hEr (fun z hz e => by have := HLO.out z e; have hz' : z = b13 := (by simpa using hz); omega)
                    obtain ⟨lb, loff, rfl, hlb, hn0, hn1, hn2⟩ := TriplesAt.cell hlfr hltj
                    have hsu := knTo_succ (ns := ns) (key := ((i : Int), di)) hltj
                    generalize ns[j] = x at *
                    generalize hr : knTo ns ((i : Int), di) j = r at *
                    have HSU := Lib.hid hsu
                    have HKR := Lib.hid (And.intro hkr hEr)
                    clear hsu hkr hEr hlfr hr hk13'
                    by_cases hxi : x.1 = (i : Int)
                    · have hxb : (x.1 == (i : Int)) = true := by simpa using hxi
                      have HXI := Lib.hid hxi
                      clear hxi
                      go_upto_region 22 with (fail)
                      go_wp2_with fail
                      refine (both_any r x.2 _).mono ?_
                      rintro e W9 ⟨rfl, hb9⟩
                      obtain ⟨hc, hf⟩ := bcell hb9
                      have hs9 := hb9.size
                      simp only [World.size_alloc] at hs9
                      have HB9 := Lib.hid (bgo (bgoAlloc (Below.refl wr.heap.size wr) (.cells #[iv x.1, iv x.2.1, iv x.2.2] 52)) hb9)
                      clear hb9
                      go_wp2_with fail
                      go_roundw
                      case rel =>
                        refine ⟨j + 1, by omega, by go_num, ?_, ?_⟩
                        · rw [HSU.out, if_pos HXI.out]
                          exact set_block (set_block ((HB9.out.block _ x3).trans HKR.out.1) _) _
                        · exact ((HKR.out.2.trans (Ext.of_below HB9.out)).trans (ext_set _ ⟨b13, 0, none⟩ _)).trans (ext_set _ ⟨b13, 1, none⟩ _)
                      case measure => simp [intOf]; omega
                    · have hxb : (x.1 == (i : Int)) = false := by simpa using hxi
                      have HXI := Lib.hid hxi
                      clear hxi
                      go_wp2_with fail
                      go_roundw
                      case rel =>
                        refine ⟨j + 1, by omega, by go_num, ?_, HKR.out.2.trans (Ext.of_below (bgoAlloc (Below.refl _ _) _))⟩
                        rw [HSU.out, if_neg HXI.out]
                        exact (Below.heap_alloc _ _ _ x3).trans HKR.out.1
                      case measure => simp [intOf]; omega
                  · have hjl : j = ns.length := by omega
                    subst hjl
                    have hkne : b13 ∉ [mb] := by simp; omega
                    have hTr : TabAt spv rv (fun _ => True) wr mb T := H17.out.2.1.ext hEr (by simp; omega)
                    have hk10r := (hEr.block _ (Array.getElem?_eq_some_iff.1 H17.out.2.2.1).1 (by simp; omega)).trans H17.out.2.2.1
                    have hwr := (hEr.block _ H17.out.2.2.2.1.lt (by simp; omega)).trans H17.out.2.2.2.1.cells
                    obtain ⟨e1, e2, e3⟩ := cells_of_block hwr
                    obtain ⟨e4, e5, e6⟩ := cells_of_block hk10r
                    have hkn : knTo ns ((i : Int), di) ns.length = kn ns ((i : Int), di) := rfl
                    rw [hkn] at x1 hkr
                    generalize hr : kn ns ((i : Int), di) = r at *
                    have HRR := Lib.hid hr
                    have HTR := Lib.hid hTr
                    have HER := Lib.hid hEr
                    clear hkr hEr hTr hk10r hwr hkn hr hk13'
                    go_upto_region 24 with (fail)
                    refine wp_region_rg 6 [] none [] (by as_aux_lemma => kernel_rfl) (by as_aux_lemma => kernel_rfl) ?_
                    simp only [List.take_succ_cons, List.take_zero, List.drop_succ_cons, List.drop_zero]
                    repeat (first | (refine tree_det (by rfl) _ (by rfl) (fun W hW => by go_simp; (try simp (disch := omega) only [IntWalk.i64_in]); try rfl) ?_; simp only [Act.put, List.setIfInBounds_toArray, List.set_cons_succ, List.set_cons_zero]) | (refine tree_skip (by rfl) (by rfl) ?_; simp only [Act.put, List.setIfInBounds_toArray, List.set_cons_succ, List.set_cons_zero]))
                    intro W hE hF
                    obtain ⟨hc, hf⟩ := bcell hE.below
                    have hzE := hE.size
                    (try simp only [World.size_alloc] at hzE)
                    obtain ⟨W25, hrun, hT25, hE25⟩ := store_run keySpot (mt := 75) (e := 31) (by kernel_rfl) (HTR.out.below hE.below (Nat.le_refl _)) ((i : Int), di) trivial r
                    have hF25 := HX.out.2.2.1.new ((i : Int), di)
                    rw [HRR.out, List.append_assoc, ← HKK.out] at hF25
                    have hE325 : Ext [mb] W3 W25 := by
                      have h1 : Ext [mb] W3 wr := ext_news H17.out.1 ⟨HER.out.os, HER.out.tape, HER.out.output, HER.out.size, fun k' hk' => HER.out.block k' (by have := H17.out.1.size; omega) (by simp; omega)⟩
                      exact (h1.trans (hE.more (by simp))).trans hE25
                    have H25 := Lib.hid (And.intro hE325 (And.intro hT25 hF25))
                    clear hT25 hE25 hF25 hE325 hE hF hc hf e1 e2 e3 e4 e5 e6 x1 x2 x3
                    go_wp2_with fail
                    go_roundw
                    case rel => exact ⟨i + 1, by omega, by go_num, H25.out.1, _, H25.out.2.1, H25.out.2.2⟩
                    case measure => simp [intOf]; omega
            · have hin : i = n := by omega
              subst hin
              have H9 := Lib.hid (And.intro (HX3.out.1.trans hE) (And.intro hT (HKS.out ▸ hFl : FillT ns T (keysTo i ls (k + 1)))))
              clear hE hT hFl
              go_wp2_with fail
              go_roundw
              case rel => exact ⟨k + 1, by omega, by go_num, H9.out.1, T, H9.out.2.1, H9.out.2.2⟩
              case measure => simp [intOf]; omega
        · have hkl : k = ls.length := by omega
          subst hkl
          have H9 := Lib.hid (And.intro (HEW.out.trans hE) (And.intro hT hFl))
          clear hE hT hFl hwr hlf
          go_wp2_with fail
          go_end0
          exact ⟨⟨_, rfl⟩, H9.out.1, T, H9.out.2.1, HNS.out ▸ H9.out.2.2⟩

end Go.Proofs.Ytechgmnkcijahaa

namespace Go.Proofs.Ytechgmnkcijahaa
open Go.RowKit Go.RG Go.SL Go.Shelf Cou Go.TB
set_option maxHeartbeats 400000
set_option maxRecDepth 10000

theorem tGRanges : SliceT Try.prog 22 31 (rv (0, 0)) 2 16 := ⟨Try.underlying22, by kernel_rfl, rfl, by omega⟩

def PaidPost (l : LedgerD) (out d : List Int) (w : World) (e : Ending) (w' : World) : Prop :=
  Below w.heap.size w w' ∧ ((canPay l out d = true ∧ ∃ v, e = .returned (.tuple #[v, .bool true]) ∧ w'.ownsRow w.heap.size 31 2 v (paidL l out d).length (pairCells (paidL l out d))) ∨ (canPay l out d = false ∧ e = .returned (.tuple #[.slice none 0 0, .bool false])))

set_option maxHeartbeats 4000000 in
theorem paid_any (l : LedgerD) (hS : SoundF l.field) (hbx : 0 ≤ l.box.1 ∧ l.box.1 ≤ 2000 ∧ 0 ≤ l.box.2 ∧ l.box.2 ≤ 2000) (tv nv v : Value) (out d : List Int) (hd3 : d.length = 3) (rs : List Rng) (hrs : rs = alone l out d)
    (hrb : ∀ r ∈ rs, 0 ≤ r.1 ∧ r.1 ≤ 2000 ∧ 0 ≤ r.2 ∧ r.2 ≤ 2000) (wb mb : Nat) (T : List ((Int × Int) × Rng)) (w : World) (hw : w.heap[wb]? = some (.cells (wwcells l tv nv v mb) 77 (0, 0))) (hT : TabAt spv rv (fun _ => True) w mb T)
    (hlook : ∀ i : Nat, i < l.field.weeders.toNat → TB.look ((i : Int), d.getD i 0) T = some (rs.getD i (0, 0))) :
    Calls Try.prog 31 #[.pointer (some ⟨wb, 0, none⟩), aggI d] w (PaidPost l out d w) := by
  have hrl : rs.length = l.field.weeders.toNat := by rw [hrs, alone_len]
  have hw0 := hS.weed0
  have hw3 := hS.weed1
  obtain ⟨n, hn⟩ : ∃ n : Nat, l.field.weeders = n := ⟨l.field.weeders.toNat, by omega⟩
  have hnt : l.field.weeders.toNat = n := by omega
  rw [hnt] at hlook hrl
  have hn3 : n ≤ 3 := by omega
  obtain ⟨y0, y1, y2, hys⟩ := three_of hd3
  have hlow := sumTo_bd (·.1) rs (fun r hr => by have := hrb r hr; omega)
  have hhigh := sumTo_bd (·.2) rs (fun r hr => by have := hrb r hr; omega)
  obtain ⟨c1, f1, l1⟩ := cells_of_block hw
  have hag : aggI d = .agg #[iv y0, iv y1, iv y2] := by rw [hys]; rfl
  rw [hag]
  have HN := Lib.hid hn
  have HRS := Lib.hid (And.intro hrs hrl)
  have HLK := Lib.hid hlook
  have HRB := Lib.hid (And.intro hrb (And.intro hlow hhigh))
  have HW := Lib.hid (And.intro hw hT)
  have HYS := Lib.hid (And.intro hys hd3)
  clear hrs hrl hlook hrb hlow hhigh hw hT hn hnt hw0 hw3 hag hys hd3
  go_enter Try.func31, Try.ntmps31
  go_wp2_with fail
  obtain ⟨W1, hW1⟩ : ∃ W1, w.alloc (.cells #[iv y0, iv y1, iv y2] 79) = W1 := ⟨_, rfl⟩
  have hB1 : Below w.heap.size w W1 := by rw [← hW1]; exact bgoAlloc (Below.refl _ _) _
  have hk0 : W1.heap[w.heap.size]? = some (.cells #[iv y0, iv y1, iv y2] 79 (0, 0)) := by rw [← hW1]; exact heap_new0 _ _
  have hw1 := (hB1.block _ l1).trans HW.out.1
  have hT1 := HW.out.2.below hB1 (Nat.le_refl _)
  have hs1 : W1.heap.size = w.heap.size + 1 := by rw [← hW1]; simp
  have HX1 := Lib.hid (And.intro hB1 (And.intro hk0 (And.intro hw1 hT1)))
  rw [hW1]
  have hws : w.heap.size < W1.heap.size := by omega
  have hwb1 : wb < W1.heap.size := by omega
  clear hW1 hB1 hk0 hw1 hT1 hs1 c1 f1
  rw [HN.out]
  go_loopw [4, 6, 7, 18] (fun v4 v6 v7 u wr => ∃ i : Nat, i ≤ n ∧ u = .int .i64 i ∧ v6 = .int .i64 (sumTo (·.1) rs i) ∧ v7 = .int .i64 (sumTo (·.2) rs i) ∧ (∃ oo oc, v4 = .slice oo i oc ∧ wr.ownsRow W1.heap.size 31 2 (.slice oo i oc) i (pairCells (rs.take i))) ∧ Below W1.heap.size W1 wr ∧
      (∀ j (hj : j < rs.length), j < i → rs[j].1 ≤ rs[j].2)) (fun _ _ _ u _ => n - (intOf u).toNat)
  case atStart => exact ⟨0, Nat.zero_le _, rfl, rfl, rfl, ⟨none, 0, rfl, ⟨rfl, .inl ⟨rfl, rfl⟩⟩⟩, Below.refl _ _, fun j hj h => by omega⟩
  case round =>
    obtain ⟨i, hi, rfl, rfl, rfl, ⟨oo, oc, rfl, how⟩, hB, hok⟩ := hrel
    have hwr := (hB.block _ hwb1).trans HX1.out.2.2.1
    have hkr := (hB.block _ hws).trans HX1.out.2.1
    have hTr := HX1.out.2.2.2.below hB (Nat.le_refl _)
    obtain ⟨d1, g1, m1⟩ := cells_of_block hwr
    by_cases hlt : i < n
    · have hir : i < rs.length := by rw [HRS.out.2]; exact hlt
      have hcell := cell_of_ints (show wr.heap[w.heap.size]? = some (.cells (intCells d).toArray 79 (0, 0)) by rw [HYS.out.1]; exact hkr) (show i < d.length by rw [HYS.out.2]; omega)
      have hgd : d.getD i 0 = d[i]'(by rw [HYS.out.2]; omega) := by simp [List.getD, HYS.out.2, show i < 3 by omega]
      have hlk := HLK.out i hlt
      rw [hgd, show rs.getD i (0, 0) = rs[i] from by simp [List.getD, hir]] at hlk
      generalize d[i]'(by rw [HYS.out.2]; omega) = di at *
      have hlook := fun W hW => look_run keySpot (mt := 75) (e := 31) (by kernel_rfl) (z := rv (0, 0)) (fun W => by simp [go_sem]) hTr ((i : Int), di) trivial false W hW
      rw [hlk] at hlook
      simp only [Option.map_some, Option.getD_some, Option.isSome_some, Bool.false_eq_true, if_false] at hlook
      have hbd := HRB.out.1 rs[i] (List.getElem_mem hir)
      have hlo := HRB.out.2.1 i (by omega)
      have hhi := HRB.out.2.2 i (by omega)
      have hls := sumTo_succ (·.1) hir
      have hhs := sumTo_succ (·.2) hir
      have htk : rs.take (i + 1) = rs.take i ++ [rs[i]] := List.take_succ_eq_append_getElem hir
      generalize hri : rs[i] = r at *
      have hb8l := m1
      have hi3 : i < 3 := by omega
      have hi3I : (i : Int) < 3 := by omega
      have hwl : w.heap.size < wr.heap.size := by have := hB.size; omega
      have HL := Lib.hid hlook
      have HS := Lib.hid (And.intro hls (And.intro hhs htk))
      have HX := Lib.hid (And.intro how (And.intro hB (And.intro hwr (And.intro hTr hok))))
      have HRI := Lib.hid hri
      clear hgd hlk hlook hls hhs htk how hB hwr hkr hTr hok hri
      generalize sumTo (·.1) rs i = slo at *
      generalize sumTo (·.2) rs i = shi at *
      go_upto_region 5 with (fail)
      refine wp_region_rg 11 [] none [(10, Spec.block wr.heap.size #[iv 0, iv 0] 31)] (by as_aux_lemma => kernel_rfl) (by as_aux_lemma => kernel_rfl) ?_
      simp only [List.take_succ_cons, List.take_zero, List.drop_succ_cons, List.drop_zero]
      repeat (first | (refine tree_det (by rfl) _ (by rfl) (fun W hW => by go_simp; (try simp (disch := omega) only [IntWalk.i64_in]); try rfl) ?_; simp only [Act.put, List.setIfInBounds_toArray, List.set_cons_succ, List.set_cons_zero]) | (refine tree_skip (by rfl) (by rfl) ?_; simp only [Act.put, List.setIfInBounds_toArray, List.set_cons_succ, List.set_cons_zero]))
      refine tree_det_on (by rfl) (rv r) (by rfl) (fun W hE _ => by have := HL.out W (hE.block mb (HX.out.2.2.2.1.lt) (by simp)); go_simp; try rfl) ?_
      simp only [Act.put, List.setIfInBounds_toArray, List.set_cons_succ, List.set_cons_zero]
      refine tree_block wr.heap.size _ _ (by rfl) (Nat.le_refl _) (by rfl) (by simp) (by simp) (fun W hW => by go_simp; try rfl) (fun b9 => ?_)
      simp only [Act.put, List.setIfInBounds_toArray, List.set_cons_succ, List.set_cons_zero]
      intro W5 hE5 hF5
      have hE5' : Ext [] wr W5 := hE5
      obtain ⟨c9, hb9, hge9, hk9⟩ := hF5 _ (List.Mem.head _)
      cases hb9
      obtain ⟨p1, p2, p3⟩ := cells_of_block hk9
      have HE5 := Lib.hid hE5'
      have hs5 := hE5'.size
      clear hE5 hF5 hE5' hcell
      go_upto_region 6 with (fail)
      refine gworld fun W6 hW6 => ?_
      have hB6 : Below wr.heap.size wr W6 := by rw [hW6]; exact bgoSet (bgoSet (show Below wr.heap.size wr W5 from HE5.out.below) hge9 _) hge9 _
      have hk96 : W6.heap[b9]? = some (.cells #[iv r.1, iv r.2] 31 (0, 0)) := by rw [hW6]; exact set_block (set_block hk9 _) _
      have ho6 : W6.ownsRow W1.heap.size 31 2 (.slice oo i oc) i (pairCells (rs.take i)) := owns_keep HX.out.1 fun g hg => hB6.block g (owns_ge HX.out.1 g hg).2
      have H6 := Lib.hid (And.intro ho6 (And.intro (bgo HX.out.2.1 hB6) (And.intro hB6 hk96)))
      clear hW6 hB6 hk9 p1 p2 p3 d1 g1 ho6
      obtain ⟨p1, p2, p3⟩ := cells_of_block hk96
      clear hk96
      by_cases hgt : r.2 < r.1
      · have hcp : canPay l out d = false := by
          unfold canPay
          rw [← HRS.out.1]
          have : rs.all (fun r => decide (r.1 ≤ r.2)) = false := by
            rw [List.all_eq_false]
            exact ⟨r, by rw [← HRI.out]; exact List.getElem_mem _, by simp; omega⟩
          rw [this]; rfl
        have HCP := Lib.hid hcp
        clear hcp
        go_wp2_with fail
        go_returns
        exact ⟨bgo HX1.out.1 H6.out.2.1, .inr ⟨HCP.out, by simp⟩⟩
      · have hngt : ¬ (r.1 > r.2) := hgt
        go_upto_region 8 with (fail)
        cases oo with
        | none =>
          have hgl : True := trivial
          refine wp_region_rg 14 [] (some 3) [(2, Spec.slice W6.heap.size #[iv r.1, iv r.2] 31 1), (3, ⟨fun _ v => ∃ o c, v = .slice o (i + 1) c, fun _ v Wx => Wx.ownsRow W1.heap.size 31 2 v (i + 1) (pairCells (rs.take (i + 1)))⟩)] (by as_aux_lemma => kernel_rfl) (by as_aux_lemma => kernel_rfl) ?_
          simp only [List.take_succ_cons, List.take_zero, List.drop_succ_cons, List.drop_zero]
          repeat (first | (refine tree_det (by rfl) _ (by rfl) (fun W hW => by go_simp; (try simp (disch := omega) only [IntWalk.i64_in]); try rfl) ?_; simp only [Act.put, List.setIfInBounds_toArray, List.set_cons_succ, List.set_cons_zero]) | (refine tree_skip (by rfl) (by rfl) ?_; simp only [Act.put, List.setIfInBounds_toArray, List.set_cons_succ, List.set_cons_zero]))
          refine tree_slice W6.heap.size _ _ 1 (by rfl) (Nat.le_refl _) (by rfl) (by first | (simp; done) | simpa using hgl) (by simp) (fun W hW => by go_simp; try rfl) (fun b2 => ?_)
          simp only [Act.put, List.setIfInBounds_toArray, List.set_cons_succ, List.set_cons_zero]
          refine tree_some _ (by rfl) (by rfl) (by exact ⟨.slice none (i + 1) 0, none, 0, rfl⟩) (fun Wa hE hF => ?_) (fun v Wa Wb ho hE => ?_) (fun v hv => ?_)
          · have hE' : Ext [] W6 Wa := hE
            obtain ⟨b', hb', hge, hcc⟩ := hF _ (List.Mem.head _) (by kernel_rfl)
            cases hb'
            have hown6 := owns_ext (Ms := []) H6.out.1 hE' (by simp)
            have hsrc : SlAt 2 Wa (.slice (some ⟨b2, 0, none⟩) 1 1) 1 (pairCells [r]) := SlAt.of_block 2 1 hcc rfl (by decide)
            refine Does.mono (does_append_at tGRanges (by rfl) (by rfl) hown6 (by rfl) hsrc (one_pairs _) (by omega) (by omega) (by have := hE'.size; have := H6.out.2.1.size; omega)) ?_
            rintro v' Wc ⟨ho, hgr, hcase⟩
            refine ⟨owns_slice ho, ?_, ⟨hgr.os, hgr.tape, hgr.output, hgr.size, fun b hb hn => hgr.block b hb (fun e => by first | (simp [Value.ownBlock] at e; done) | (simp [Value.ownBlock] at e; exact hn (by simp [e])))⟩⟩
            show Wc.ownsRow _ _ _ v' (i + 1) _
            rw [HS.out.2.2, pairCells_snoc]
            exact ho
          · exact owns_ext (Ms := []) ho hE (by simp)
          obtain ⟨o3, c3, rfl⟩ := hv
          simp only [Act.put, List.setIfInBounds_toArray, List.set_cons_succ, List.set_cons_zero]
          repeat (first | (refine tree_det (by rfl) _ (by rfl) (fun W hW => by go_simp; (try simp (disch := omega) only [IntWalk.i64_in]); try rfl) ?_; simp only [Act.put, List.setIfInBounds_toArray, List.set_cons_succ, List.set_cons_zero]) | (refine tree_skip (by rfl) (by rfl) ?_; simp only [Act.put, List.setIfInBounds_toArray, List.set_cons_succ, List.set_cons_zero]))
          intro W8 hE hF
          have hE' : Ext [] W6 W8 := hE
          have ho8 : W8.ownsRow W1.heap.size 31 2 (.slice o3 (i + 1) c3) (i + 1) (pairCells (rs.take (i + 1))) := hF _ (List.Mem.head _)
          have hB8 : Below W1.heap.size W1 W8 := ⟨hE'.os.trans H6.out.2.1.os, hE'.tape.trans H6.out.2.1.tape, hE'.output.trans H6.out.2.1.output, Nat.le_trans H6.out.2.1.size hE'.size, fun b hb => (hE'.block b (by have := H6.out.2.1.size; omega) (by simp <;> omega)).trans (H6.out.2.1.block b hb)⟩
          have H8 := Lib.hid (And.intro ho8 hB8)
          clear hE hF hE' ho8 hB8 p1 p2 p3
          go_wp2_with fail
          go_roundw
          case rel =>
            refine ⟨i + 1, by omega, by go_num, by rw [HS.out.1], by rw [HS.out.2.1], ⟨o3, c3, rfl, H8.out.1⟩, H8.out.2, fun j hj hji => ?_⟩
            by_cases hje : j = i
            · subst hje; rw [HRI.out]; omega
            · exact HX.out.2.2.2.2 j hj (by omega)
          case measure => simp [intOf]; omega
        | some a =>
          obtain ⟨gb, rfl, hgb⟩ : ∃ gb : Nat, a = ⟨gb, 0, none⟩ ∧ W1.heap.size ≤ gb := by
            obtain ⟨_, ⟨hv, _⟩ | ⟨g, c, cs, hv, hbg, hrest⟩⟩ := H6.out.1
            · cases hv
            · simp at hv; exact ⟨g, hv.1, hbg⟩
          have hgl : gb < W6.heap.size := (owns_ge H6.out.1 gb rfl).2
          have hgw : gb < wr.heap.size := (owns_ge HX.out.1 gb rfl).2
          have hg9 : b9 ≠ gb := by omega
          refine wp_region_rg 14 [gb] (some 3) [(2, Spec.slice W6.heap.size #[iv r.1, iv r.2] 31 1), (3, ⟨fun _ v => ∃ o c, v = .slice o (i + 1) c, fun _ v Wx => Wx.ownsRow W1.heap.size 31 2 v (i + 1) (pairCells (rs.take (i + 1)))⟩)] (by as_aux_lemma => kernel_rfl) (by as_aux_lemma => kernel_rfl) ?_
          simp only [List.take_succ_cons, List.take_zero, List.drop_succ_cons, List.drop_zero]
          repeat (first | (refine tree_det (by rfl) _ (by rfl) (fun W hW => by go_simp; (try simp (disch := omega) only [IntWalk.i64_in]); try rfl) ?_; simp only [Act.put, List.setIfInBounds_toArray, List.set_cons_succ, List.set_cons_zero]) | (refine tree_skip (by rfl) (by rfl) ?_; simp only [Act.put, List.setIfInBounds_toArray, List.set_cons_succ, List.set_cons_zero]))
          refine tree_slice W6.heap.size _ _ 1 (by rfl) (Nat.le_refl _) (by rfl) (by first | (simp; done) | simpa using hgl) (by simp) (fun W hW => by go_simp; try rfl) (fun b2 => ?_)
          simp only [Act.put, List.setIfInBounds_toArray, List.set_cons_succ, List.set_cons_zero]
          refine tree_some _ (by rfl) (by rfl) (by exact ⟨.slice none (i + 1) 0, none, 0, rfl⟩) (fun Wa hE hF => ?_) (fun v Wa Wb ho hE => ?_) (fun v hv => ?_)
          · have hE' : Ext [] W6 Wa := hE
            obtain ⟨b', hb', hge, hcc⟩ := hF _ (List.Mem.head _) (by kernel_rfl)
            cases hb'
            have hown6 := owns_ext (Ms := []) H6.out.1 hE' (by simp)
            have hsrc : SlAt 2 Wa (.slice (some ⟨b2, 0, none⟩) 1 1) 1 (pairCells [r]) := SlAt.of_block 2 1 hcc rfl (by decide)
            refine Does.mono (does_append_at tGRanges (by rfl) (by rfl) hown6 (by rfl) hsrc (one_pairs _) (by omega) (by omega) (by have := hE'.size; have := H6.out.2.1.size; omega)) ?_
            rintro v' Wc ⟨ho, hgr, hcase⟩
            refine ⟨owns_slice ho, ?_, ⟨hgr.os, hgr.tape, hgr.output, hgr.size, fun b hb hn => hgr.block b hb (fun e => by first | (simp [Value.ownBlock] at e; done) | (simp [Value.ownBlock] at e; exact hn (by simp [e])))⟩⟩
            show Wc.ownsRow _ _ _ v' (i + 1) _
            rw [HS.out.2.2, pairCells_snoc]
            exact ho
          · exact owns_ext (Ms := []) ho hE (by simp)
          obtain ⟨o3, c3, rfl⟩ := hv
          simp only [Act.put, List.setIfInBounds_toArray, List.set_cons_succ, List.set_cons_zero]
          repeat (first | (refine tree_det (by rfl) _ (by rfl) (fun W hW => by go_simp; (try simp (disch := omega) only [IntWalk.i64_in]); try rfl) ?_; simp only [Act.put, List.setIfInBounds_toArray, List.set_cons_succ, List.set_cons_zero]) | (refine tree_skip (by rfl) (by rfl) ?_; simp only [Act.put, List.setIfInBounds_toArray, List.set_cons_succ, List.set_cons_zero]))
          intro W8 hE hF
          have hE' : Ext [gb] W6 W8 := hE
          have ho8 : W8.ownsRow W1.heap.size 31 2 (.slice o3 (i + 1) c3) (i + 1) (pairCells (rs.take (i + 1))) := hF _ (List.Mem.head _)
          have hB8 : Below W1.heap.size W1 W8 := ⟨hE'.os.trans H6.out.2.1.os, hE'.tape.trans H6.out.2.1.tape, hE'.output.trans H6.out.2.1.output, Nat.le_trans H6.out.2.1.size hE'.size, fun b hb => (hE'.block b (by have := H6.out.2.1.size; omega) (by simp <;> omega)).trans (H6.out.2.1.block b hb)⟩
          have H8 := Lib.hid (And.intro ho8 hB8)
          clear hE hF hE' ho8 hB8 p1 p2 p3
          go_wp2_with fail
          go_roundw
          case rel =>
            refine ⟨i + 1, by omega, by go_num, by rw [HS.out.1], by rw [HS.out.2.1], ⟨o3, c3, rfl, H8.out.1⟩, H8.out.2, fun j hj hji => ?_⟩
            by_cases hje : j = i
            · subst hje; rw [HRI.out]; omega
            · exact HX.out.2.2.2.2 j hj (by omega)
          case measure => simp [intOf]; omega
    · have hin : i = n := by omega
      subst hin
      have htk : rs.take i = rs := List.take_of_length_le (by rw [HRS.out.2]; exact Nat.le_refl _)
      rw [htk] at how
      have hl : sumTo (·.1) rs i = lowL l out d := by unfold lowL; rw [← HRS.out.1, ← sumTo_all, HRS.out.2]
      have hh : sumTo (·.2) rs i = highL l out d := by unfold highL; rw [← HRS.out.1, ← sumTo_all, HRS.out.2]
      have hall : (alone l out d).all (fun r => decide (r.1 ≤ r.2)) = true := by
        rw [← HRS.out.1, List.all_eq_true]
        intro r hr
        obtain ⟨j, hj, rfl⟩ := List.getElem_of_mem hr
        simpa using hok j hj (by rw [← HRS.out.2]; exact hj)
      have hcp : canPay l out d = (decide (lowL l out d ≤ l.box.2) && decide (l.box.1 ≤ highL l out d)) := by unfold canPay; rw [hall, Bool.true_and]
      have hlo := HRB.out.2.1 i (by rw [HRS.out.2]; exact Nat.le_refl _)
      have hhi := HRB.out.2.2 i (by rw [HRS.out.2]; exact Nat.le_refl _)
      have hpl : paidL l out d = rs.map fun r => bothR r (l.box.1 - (highL l out d - r.2), l.box.2 - (lowL l out d - r.1)) := by unfold paidL; rw [HRS.out.1]
      rw [hl, hh] at *
      generalize lowL l out d = slo at *
      generalize highL l out d = shi at *
      have HCP := Lib.hid hcp
      have HPL := Lib.hid hpl
      have HO := Lib.hid (And.intro how hB)
      have HWR := Lib.hid hwr
      clear hl hh hall hcp hpl how hB hok hwr hkr hTr htk
      by_cases h1 : slo > l.box.2
      · have hF : canPay l out d = false := by rw [HCP.out, decide_eq_false (by omega)]; rfl
        have HF := Lib.hid hF
        clear hF
        go_wp2_with fail
        go_returns
        exact ⟨bgo HX1.out.1 HO.out.2, .inr ⟨HF.out, by simp⟩⟩
      by_cases h2 : shi < l.box.1
      · have hF : canPay l out d = false := by rw [HCP.out, decide_eq_true (show slo ≤ l.box.2 by omega), decide_eq_false (by omega)]; rfl
        have HF := Lib.hid hF
        clear hF
        go_wp2_with fail
        go_returns
        exact ⟨bgo HX1.out.1 HO.out.2, .inr ⟨HF.out, by simp⟩⟩
      have hT : canPay l out d = true := by rw [HCP.out, decide_eq_true (show slo ≤ l.box.2 by omega), decide_eq_true (show l.box.1 ≤ shi by omega)]; rfl
      have HTR := Lib.hid hT
      clear hT
      have hpos : 0 < i := by have := hS.weed0; have := HN.out; omega
      obtain ⟨gb, rfl, hgb⟩ : ∃ gb : Nat, oo = some ⟨gb, 0, none⟩ ∧ W1.heap.size ≤ gb := by
        obtain ⟨_, ⟨hv, h0⟩ | ⟨g, c, cs, hv, hbg, hrest⟩⟩ := HO.out.1
        · omega
        · simp at hv; exact ⟨g, hv.1, hbg⟩
      obtain ⟨ps, hps⟩ : ∃ ps, paidL l out d = ps := ⟨_, rfl⟩
      have hpsl : ps.length = i := by rw [← hps, HPL.out, List.length_map, HRS.out.2]
      have HPS := Lib.hid (And.intro hps hpsl)
      have hq0 : ps.take 0 ++ rs.drop 0 = rs := by simp
      have hown0 : wr.ownsRow W1.heap.size 31 2 (.slice (some ⟨gb, 0, none⟩) i oc) i (pairCells (ps.take 0 ++ rs.drop 0)) := by rw [hq0]; exact HO.out.1
      have HO0 := Lib.hid hown0
      clear hps hpsl hq0 hown0
      go_wp2_with fail
      go_loopw [69] (fun u wq => ∃ j : Nat, j ≤ i ∧ u = .int .i64 j ∧ wq.ownsRow W1.heap.size 31 2 (.slice (some ⟨gb, 0, none⟩) i oc) i (pairCells (ps.take j ++ rs.drop j)) ∧ Below W1.heap.size W1 wq) (fun u _ => i - (intOf u).toNat)
      case atStart => exact ⟨0, Nat.zero_le _, rfl, HO0.out, HO.out.2⟩
      case round =>
        obtain ⟨j, hj, rfl, how, hB⟩ := hrel
        by_cases hlt : j < i
        · have hjr : j < rs.length := by rw [HRS.out.2]; exact hlt
          have hjp : j < ps.length := by rw [HPS.out.2]; exact hlt
          have hQl : (ps.take j ++ rs.drop j).length = i := by rw [List.length_append, List.length_take, List.length_drop, HRS.out.2, HPS.out.2]; omega
          have how' : wr.ownsRow W1.heap.size 31 2 (.slice (some ⟨gb, 0, none⟩) (ps.take j ++ rs.drop j).length oc) (ps.take j ++ rs.drop j).length (pairCells (ps.take j ++ rs.drop j)) := by rw [hQl]; exact how
          have hQj : (ps.take j ++ rs.drop j)[j]'(by rw [hQl]; exact hlt) = rs[j] := by
            rw [List.getElem_append_right (by rw [List.length_take]; omega)]
            simp [List.length_take, Nat.min_eq_left (Nat.le_of_lt hjp)]
          have hQn : (ps.take j ++ rs.drop j).set j ps[j] = ps.take (j + 1) ++ rs.drop (j + 1) := by
            rw [List.set_append_right _ _ (by rw [List.length_take]; omega), List.length_take, Nat.min_eq_left (Nat.le_of_lt hjp), Nat.sub_self, List.take_succ_eq_append_getElem hjp, show rs.drop j = rs[j] :: rs.drop (j + 1) from List.drop_eq_getElem_cons hjr, List.set_cons_zero, List.append_assoc]
            rfl
          have hpj : ps[j] = bothR rs[j] (l.box.1 - (shi - rs[j].2), l.box.2 - (slo - rs[j].1)) := by
            have h1 := HPS.out.1
            have h2 := HPL.out
            rw [h1] at h2
            subst h2
            rw [List.getElem_map]
          have hop := owns_pair how' (show j < (ps.take j ++ rs.drop j).length by rw [hQl]; exact hlt)
          have hbd := HRB.out.1 rs[j] (List.getElem_mem hjr)
          rw [hpj] at hQn
          rw [hQj] at hop
          generalize rs[j] = r at *
          obtain ⟨g2, c2, hg2, hgb2, hgl2, ⟨s0, s1⟩, hfr2⟩ := hop
          obtain ⟨rfl, rfl⟩ : gb = g2 ∧ oc = c2 := by simp at hg2; exact hg2
          have hwr := (hB.block _ hwb1).trans HX1.out.2.2.1
          have hb1 : -10000 ≤ shi - r.2 ∧ shi - r.2 ≤ 10000 := by omega
          have hb2 : -10000 ≤ slo - r.1 ∧ slo - r.1 ≤ 10000 := by omega
          have hb3 : -20000 ≤ l.box.1 - (shi - r.2) ∧ l.box.1 - (shi - r.2) ≤ 20000 := by omega
          have hb4 : -20000 ≤ l.box.2 - (slo - r.1) ∧ l.box.2 - (slo - r.1) ≤ 20000 := by omega
          have HQ := Lib.hid (And.intro hQn (And.intro hQl (And.intro how' hB)))
          have hltI : (j : Int) < i := by omega
          have hbw : Below wr.heap.size wr wr := Below.refl _ _
          clear hpj hQn hQl how how' hB hQj hg2 hbw hjp hjr
          go_upto_region 15 with (fail)
          refine gworld fun W14 hW14 => ?_
          have hB14 : Below wr.heap.size wr W14 := by rw [hW14]; exact (by repeat (first | exact Below.refl _ _ | assumption | refine bgo ?_ (by assumption) | refine bgoAlloc ?_ _ | refine bgoDrew ?_ | refine bgoSet ?_ (by simp; omega) _))
          have hk11 : W14.heap[wr.heap.size]? = some (.cells #[iv r.1, iv r.2] 31 (0, 0)) := by rw [hW14]; exact heap_new0 _ _
          have hw14 := (hB14.block _ (Array.getElem?_eq_some_iff.1 hwr).1).trans hwr
          have s014 := (hB14.cell (p := ⟨gb, j * 2, none⟩) hgl2).trans s0
          have s114 := (hB14.cell (p := ⟨gb, j * 2 + 1, none⟩) hgl2).trans s1
          have hs14 := hB14.size
          have hgl14 : gb < W14.heap.size := by omega
          have H14 := Lib.hid hB14
          obtain ⟨e1, e2, e3⟩ := cells_of_block hw14
          obtain ⟨e4, e5, e6⟩ := cells_of_block hk11
          clear hW14 hB14 hw14 hwr s0 s1 hfr2 hk11
          refine wp_region_rg 27 [] none [(26, Spec.val (rv (bothR r (l.box.1 - (shi - r.2), l.box.2 - (slo - r.1)))))] (by as_aux_lemma => kernel_rfl) (by as_aux_lemma => kernel_rfl) ?_
          simp only [List.take_succ_cons, List.take_zero, List.drop_succ_cons, List.drop_zero]
          repeat (first | (refine tree_det (by rfl) _ (by rfl) (fun W hW => by go_simp; (try simp (disch := omega) only [IntWalk.i64_in]); try rfl) ?_; simp only [Act.put, List.setIfInBounds_toArray, List.set_cons_succ, List.set_cons_zero]) | (refine tree_skip (by rfl) (by rfl) ?_; simp only [Act.put, List.setIfInBounds_toArray, List.set_cons_succ, List.set_cons_zero]))
          refine tree_val _ (by rfl) (by rfl) 54 _ (fun W hW => by go_simp; try rfl) (fun W hE hF => by exact both_any r (l.box.1 - (shi - r.2), l.box.2 - (slo - r.1)) W) ?_
          simp only [Act.put, List.setIfInBounds_toArray, List.set_cons_succ, List.set_cons_zero]
          intro W hE hF
          obtain ⟨hc, hf⟩ := bcell hE.below
          have hzE := hE.size
          (try simp only [World.size_alloc] at hzE)
          have HE := Lib.hid hE
          have hBW : Below wr.heap.size wr W := bgo H14.out hE.below
          have hown : W.ownsRow W1.heap.size 31 2 (.slice (some ⟨gb, 0, none⟩) (ps.take j ++ rs.drop j).length oc) (ps.take j ++ rs.drop j).length (pairCells (ps.take j ++ rs.drop j)) := owns_keep HQ.out.2.2.1 fun g hg => hBW.block g (owns_ge HQ.out.2.2.1 g hg).2
          obtain ⟨g3, c3, hg3, _, hgl3, ⟨t0, t1⟩, hfr3⟩ := owns_pair hown (show j < (ps.take j ++ rs.drop j).length by rw [HQ.out.2.1]; exact hlt)
          obtain ⟨rfl, rfl⟩ : gb = g3 ∧ oc = c3 := by simp at hg3; exact hg3
          have hset := owns_set_pair hown (show j < (ps.take j ++ rs.drop j).length by rw [HQ.out.2.1]; exact hlt) (bothR r (l.box.1 - (shi - r.2), l.box.2 - (slo - r.1)))
          rw [HQ.out.1] at hset
          have hsl : (ps.take (j + 1) ++ rs.drop (j + 1)).length = i := by rw [← HQ.out.1, List.length_set, HQ.out.2.1]
          have HST := Lib.hid (And.intro hset (And.intro hsl (bgo HQ.out.2.2.2 hBW)))
          clear hE hF hown hg3 hset hsl hBW e1 e2 e3 e4 e5 e6 s014 s114 hc hf hzE
          go_wp2_with fail
          go_roundw
          case rel =>
            refine ⟨j + 1, by omega, by go_num, ?_, bgoSet (bgoSet HST.out.2.2 hgb _) hgb _⟩
            have := HST.out.1
            rw [HQ.out.2.1] at this
            exact this
          case measure => simp [intOf]; omega
        · have hji : j = i := by omega
          subst hji
          have hfin : ps.take j ++ rs.drop j = ps := by rw [List.take_of_length_le (by rw [HPS.out.2]; exact Nat.le_refl _), List.drop_of_length_le (by rw [HRS.out.2]; exact Nat.le_refl _), List.append_nil]
          rw [hfin] at how
          have HF := Lib.hid (And.intro how hB)
          clear hfin how hB
          go_wp2_with fail
          go_returns
          refine ⟨bgo HX1.out.1 HF.out.2, .inl ⟨HTR.out, _, by simp; rfl, ?_⟩⟩
          rw [HPS.out.1, HPS.out.2]
          exact owns_base HF.out.1 (by omega)

end Go.Proofs.Ytechgmnkcijahaa

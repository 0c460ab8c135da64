/-
  The law's some: a ledger with some of its notes, by bits.
-/
import Derived.WalkKit
import Derived.WalkLawsBesides
import Derived.WalkSpells
import Derived.Outline
import Derived.Handy
import Derived.KernelRfl
import Derived.Lib.Hide
import Derived.Test.YtdjgikcnmokjkaaGreatVK
namespace Go.Proofs.YtdjgikcnmokjkaaGreat
open Go.RowKit Go.RG Go.SL Go.Shelf Cou Go.TB
set_option maxHeartbeats 400000
set_option maxRecDepth 10000

theorem tNotes9 : SliceT Tryz.prog 28 77 (xv (0, 0, 0)) 3 24 := ⟨Tryz.underlying28, by kernel_rfl, rfl, by omega⟩

/-- It returns the ledger with some of its notes; nothing that was there has turned. -/
def PSomeG (l : LedgerD) (m : Nat) (tv : Value) (w : World) (e : Ending) (w' : World) : Prop := ∃ c, e = .returned (lv (someG l m) tv c) ∧ TriplesAt w' c (someG l m).notes ∧ Below w.heap.size w w'

set_option maxHeartbeats 4000000 in
theorem lawSome_any (l : LedgerD) (tv nv : Value) (m : Nat) (w : World) (ht : TalliesAt w tv l.field.tallies) (hn : TriplesAt w nv l.notes) (hl : l.notes.length ≤ 7) (hm : (m : Int) ≤ 1000) :
    Calls Tryz.prog 44 #[lv l tv nv, iv m] w (PSomeG l m tv w) := by
  obtain ⟨ot, ct, rfl⟩ := ht.open
  obtain ⟨ox, cx, rfl⟩ := hn.open
  have HX := Lib.hid hn
  clear ht hn
  go_enter Tryz.func44, Tryz.ntmps44
  go_wp2_with fail
  refine gworld fun W1 hW1 => ?_
  have HB1 := Lib.hid (show Below w.heap.size w W1 from by rw [hW1]; exact (by repeat (first | exact Below.refl _ _ | assumption | refine bgo ?_ (by assumption) | refine bgoAlloc ?_ _ | refine bgoDrew ?_ | refine bgoSet ?_ (by simp; omega) _)))
  have hA0 : W1.heap[w.heap.size]? = some (.cells (lcells l (.slice ot l.field.tallies.length ct) (.slice ox l.notes.length cx)) 30 (0, 0)) := by
    rw [hW1]; exact (Below.heap_alloc _ _ _ (by first | omega | (simp; done) | (simp; omega))).trans ((Below.heap_alloc _ _ _ (by first | omega | (simp; done) | (simp; omega))).trans (heap_new0 _ _))
  have hA1 : W1.heap[w.heap.size + 1]? = some (.cells #[iv 0, iv 0, iv 0, iv 0, .slice none 0 0, iv 0, iv 0, iv 0, .slice none 0 0] 30 (0, 0)) := by rw [hW1]; exact (Below.heap_alloc _ _ _ (by first | omega | (simp; done) | (simp; omega))).trans (heap_new1 _ _ _)
  have hA2 : W1.heap[w.heap.size + 2]? = some (.cells (lcells l (.slice ot l.field.tallies.length ct) (.slice none 0 0)) 30 (0, 0)) := by rw [hW1]; exact heap_new2 _ _ _ _
  have hsz : W1.heap.size = w.heap.size + 3 := by rw [hW1]; simp
  have HSZ := Lib.hid hsz
  have HA := Lib.hid (And.intro hA0 (And.intro hA1 hA2))
  clear hA0 hA1 hA2 hW1 hsz
  go_loopw [6] (fun u wr => ∃ k : Nat, k ≤ l.notes.length ∧ u = .int .i64 k ∧ ∃ oo oc, wr.heap[w.heap.size + 2]? = some (.cells (lcells l (.slice ot l.field.tallies.length ct) (.slice oo (someTo m l.notes k).length oc)) 30 (0, 0)) ∧
      wr.ownsRow W1.heap.size 77 3 (.slice oo (someTo m l.notes k).length oc) (someTo m l.notes k).length (tripleCells (someTo m l.notes k)) ∧ Below w.heap.size w wr ∧ W1.heap.size ≤ wr.heap.size ∧ ∀ c, c < W1.heap.size → c ≠ w.heap.size + 2 → wr.heap[c]? = W1.heap[c]?) (fun u _ => l.notes.length - (intOf u).toNat)
  case atStart => exact ⟨0, Nat.zero_le _, rfl, none, 0, HA.out.2.2, ⟨rfl, .inl ⟨rfl, rfl⟩⟩, HB1.out, Nat.le_refl _, fun _ _ _ => rfl⟩
  case round =>
    obtain ⟨k, hk, rfl, oo, oc, hblk, hown, hB, hsw, hkeep⟩ := hrel
    obtain ⟨hcr0, _, hsr0⟩ := cells_of_block ((hkeep w.heap.size (by have := HSZ.out; omega) (by omega)).trans HA.out.1)
    obtain ⟨hcr2, hfr2, hsr2⟩ := cells_of_block hblk
    have hlen := someTo_len m k l.notes
    have hHX := HX.out.below hB (Nat.le_refl _)
    have HK := Lib.hid (And.intro hblk (And.intro hown (And.intro hB (And.intro hsw hkeep))))
    clear hblk hown hB hsw hkeep
    by_cases hlt : k < l.notes.length
    · obtain ⟨b, off, rfl, hb1, d1, d2, d3⟩ := TriplesAt.cell hHX hlt
      have hltI : (k : Int) < l.notes.length := by omega
      have g1 : l.notes.getD k (0, 0, 0) = l.notes[k] := by simp [List.getD, hlt]
      clear hHX
      generalize l.notes[k] = x at *
      have HG := Lib.hid g1
      clear g1
      have hdI : (m : Int) / 2 ^ k = ((m / 2 ^ k : Nat) : Int) := by norm_cast
      have hbit := bit_at m k
      have hdle : m / 2 ^ k ≤ m := Nat.div_le_self _ _
      generalize m / 2 ^ k = d at *
      have hd1 : (d : Int) ≤ 1000 := by omega
      cases hb : m.testBit k
      · rw [hb] at hbit
        have HNO := Lib.hid (someTo_no l.notes hb)
        clear hb
        go_wp2_with fail
        go_roundw
        case rel =>
          refine ⟨k + 1, by omega, by go_num, oo, oc, ?_⟩
          rw [HNO.out]
          exact HK.out
        case measure => simp [intOf]; omega
      · rw [hb] at hbit
        have hyes := someTo_yes l.notes hb
        rw [HG.out] at hyes
        have HYES := Lib.hid hyes
        clear hyes hb
        go_wp2_with fail
        refine wp_region_rg 8 [] none [(7, Spec.slice wr.heap.size #[iv x.1, iv x.2.1, iv x.2.2] 77 1)] (by as_aux_lemma => kernel_rfl) (by as_aux_lemma => kernel_rfl) ?_
        simp only [List.take_succ_cons, List.take_zero, List.drop_succ_cons, List.drop_zero]
        repeat (first | (refine tree_det (by rfl) _ (by rfl) (fun W hW => by go_simp; (try simp (disch := omega) only [IntWalk.i64_in]); try rfl) ?_; simp only [Act.put, List.setIfInBounds_toArray, List.set_cons_succ, List.set_cons_zero]) | (refine tree_skip (by rfl) (by rfl) ?_; simp only [Act.put, List.setIfInBounds_toArray, List.set_cons_succ, List.set_cons_zero]))
        refine tree_slice wr.heap.size _ _ _ (by rfl) (Nat.le_refl _) (by rfl) (by simp) (by simp) (fun W hW => by go_simp; try rfl) (fun b8 => ?_)
        simp only [Act.put, List.setIfInBounds_toArray, List.set_cons_succ, List.set_cons_zero]
        repeat (first | (refine tree_det (by rfl) _ (by rfl) (fun W hW => by go_simp; (try simp (disch := omega) only [IntWalk.i64_in]); try rfl) ?_; simp only [Act.put, List.setIfInBounds_toArray, List.set_cons_succ, List.set_cons_zero]) | (refine tree_skip (by rfl) (by rfl) ?_; simp only [Act.put, List.setIfInBounds_toArray, List.set_cons_succ, List.set_cons_zero]))
        intro W5 hE5 hF5
        have hE5' : Ext [] wr W5 := hE5
        obtain ⟨b8', hb8, hbB8, hblk8⟩ := hF5 _ (List.Mem.head _)
        cases hb8
        have HE5 := Lib.hid hE5'
        have HBK := Lib.hid hblk8
        have HOW5 := Lib.hid (owns_ext (Ms := []) HK.out.2.1 hE5' (by simp))
        have hz5 := hE5'.size
        have hsw := HK.out.2.2.2.1
        clear hE5 hF5 hE5' hblk8
        go_wp2_with (at_builtin; go_loud (refine wpList_append_at rfl _ _ tNotes9 rfl W1.heap.size (.slice oo (someTo m l.notes k).length oc) (someTo m l.notes k).length (tripleCells (someTo m l.notes k)) rfl HOW5.out (.slice (some ⟨b8, 0, none⟩) 1 1) 1 (tripleCells [x]) rfl (SlAt.of_block 3 1 HBK.out rfl (by decide)) (one_triples _) (by omega) (by omega) (by omega) ?_))
        intro v' W6 hown6 hgr6 _
        obtain ⟨o6, c6, rfl⟩ := owns_slice hown6
        have hs3 := HSZ.out
        have HP := Lib.hid (ap_push (i := 8) (u := .slice o6 ((someTo m l.notes k).length + 1) c6) HK.out.2.2.1 HK.out.2.1 HE5.out hown6 hgr6 hsw (by omega) (by omega) HK.out.1)
        obtain ⟨hcr6, hfr6, hsr6⟩ := cells_of_block (((ap_push0 HK.out.2.2.1 HK.out.2.1 HE5.out hown6 hgr6 (by omega) hsw).2.2 (w.heap.size + 2) (by omega)).trans HK.out.1)
        clear hown6 hgr6 hs3
        go_wp2_with fail
        go_roundw
        case rel =>
          have e : (someTo m l.notes (k + 1)).length = (someTo m l.notes k).length + 1 := by rw [HYES.out]; simp
          refine ⟨k + 1, by omega, by go_num, o6, c6, ?_⟩
          rw [e, HYES.out, noteCells_snoc]
          exact ⟨HP.out.2.2.2.1, HP.out.2.2.1, HP.out.1, HP.out.2.1, fun c hc hne => (HP.out.2.2.2.2 c hc hne).trans (HK.out.2.2.2.2 c hc hne)⟩
        case measure => simp [intOf]; omega
    · obtain rfl : k = l.notes.length := by omega
      clear hHX
      have hres := (HK.out.2.2.2.2 (w.heap.size + 1) (by have := HSZ.out; omega) (by omega)).trans HA.out.2.1
      obtain ⟨hcr1, hfr1, hsr1⟩ := cells_of_block hres
      have HRES := Lib.hid hres
      clear hres
      have HN := Lib.hid (show (someG l m).notes = someTo m l.notes l.notes.length from rfl)
      go_wp2_with fail
      have hE9 := ext_nine wr (w.heap.size + 1) (iv l.field.rows) (iv l.field.weeders) (iv l.field.left.1) (iv l.field.left.2) (.slice ot l.field.tallies.length ct) (iv l.rate) (iv l.box.1) (iv l.box.2) (.slice oo (someTo m l.notes l.notes.length).length oc)
      have hset := set_nine HRES.out (iv l.field.rows) (iv l.field.weeders) (iv l.field.left.1) (iv l.field.left.2) (.slice ot l.field.tallies.length ct) (iv l.rate) (iv l.box.1) (iv l.box.2) (.slice oo (someTo m l.notes l.notes.length).length oc)
      generalize ((((((((wr.setCell ⟨w.heap.size + 1, 0, none⟩ (iv l.field.rows)).setCell ⟨w.heap.size + 1, 1, none⟩ (iv l.field.weeders)).setCell ⟨w.heap.size + 1, 2, none⟩ (iv l.field.left.1)).setCell ⟨w.heap.size + 1, 3, none⟩ (iv l.field.left.2)).setCell ⟨w.heap.size + 1, 4, none⟩ (.slice ot l.field.tallies.length ct)).setCell ⟨w.heap.size + 1, 5, none⟩ (iv l.rate)).setCell ⟨w.heap.size + 1, 6, none⟩ (iv l.box.1)).setCell ⟨w.heap.size + 1, 7, none⟩ (iv l.box.2)).setCell ⟨w.heap.size + 1, 8, none⟩ (.slice oo (someTo m l.notes l.notes.length).length oc) = X at *
      refine bodyPost_ret (v := lv (someG l m) (.slice ot l.field.tallies.length ct) (.slice oo (someTo m l.notes l.notes.length).length oc)) (results_cell_row Tryz.results44 _ _ (w.heap.size + 1) _ _ (0, 0) _ rfl hset Tryz.underlying30 rfl (by kernel_rfl)) rfl ?_
      refine ⟨_, rfl, ?_, below_of_ext HK.out.2.2.1 hE9 (by omega)⟩
      rw [HN.out]
      have hx := SlAt.of_owns (owns_ext' HK.out.2.1 hE9 fun x hx e => by
        obtain rfl : x = w.heap.size + 1 := by simpa using hx
        have := (owns_ge HK.out.2.1 _ e).1
        have := HSZ.out
        omega)
      exact hx
end Go.Proofs.YtdjgikcnmokjkaaGreat

/-
  The reference's truths, lists of the call's own.
-/
import Derived.WalkKit
import Derived.WalkLawsBesides
import Derived.WalkSpells
import Derived.Outline
import Derived.Handy
import Derived.KernelRfl
import Derived.Lib.Hide
import Derived.Deep.Cut
import Derived.Test.YtdjgikcnmokjkaaGreatRE
namespace Go.Proofs.YtdjgikcnmokjkaaGreat
open Go.RowKit Go.RG Go.SL Go.Shelf Cou Go.TB
set_option maxHeartbeats 400000
set_option maxRecDepth 10000

/-- It returns lists of its own that read so; nothing that was there has turned. -/
def PListsO (l : List (List Int)) (w : World) (e : Ending) (w' : World) : Prop := ∃ v es, e = .returned v ∧ Les w.heap.size v es w' ∧ es.map (·.2) = l ∧ Below w.heap.size w w'

set_option maxHeartbeats 2000000 in
theorem rTruths_own (f : FieldD) (hS : SoundF f) (tv : Value) (w : World) (ht : TalliesAt w tv f.tallies) :
    Calls Tryz.prog 34 #[fv f tv] w (PListsO (rtruths f) w) := by
  obtain ⟨to, tc, rfl⟩ := ht.open
  have hr0 := hS.rows0
  have hr1 := hS.rows1
  have hw0 := hS.weed0
  have hw1 := hS.weed1
  have hp := (powF_bd' (b := f.weeders + 1) (by omega) (by omega) f.rows.toNat (by omega)).1
  have hm := hS.many
  obtain ⟨M, hM⟩ : ∃ M : Nat, (f.weeders + 1) ^ f.rows.toNat = M := ⟨((f.weeders + 1) ^ f.rows.toNat).toNat, by omega⟩
  have HMA := Lib.hid (fun W => rMany_any f (.slice to f.tallies.length tc) W hr0 hr1 hw0 hw1)
  rw [hM] at hm HMA
  have hM25 : M ≤ 2500 := by omega
  have HEND : Hid (rtruths f = rtruthsTo f M) := Lib.hid (by unfold rtruths; rw [hM, Int.toNat_natCast])
  have HNT := Lib.hid (fun (k : Nat) (hk : k < M) W => rNth_any f hS (.slice to f.tallies.length tc) k (by omega) (by omega) W)
  have HIT := Lib.hid (fun l hl lv W h1 h2 => rIsTruth_any f hS (.slice to f.tallies.length tc) lv l hl W h1 h2)
  have HMEM := Lib.hid (fun n => nthF_mem hS n)
  have HLN := Lib.hid (fun (l : List Int) (hl : l ∈ allF f) => (mem_allF.1 hl).1)
  have HT := Lib.hid ht
  clear ht hS hp hm hM
  go_enter Tryz.func34, Tryz.ntmps34
  go_wp2_with fail
  refine gworld fun W0 hW0 => ?_
  have hB0 : Below w.heap.size w W0 := by rw [hW0]; exact (by repeat (first | exact Below.refl _ _ | assumption | refine bgo ?_ (by assumption) | refine bgoAlloc ?_ _ | refine bgoDrew ?_ | refine bgoSet ?_ (by simp; omega) _))
  have hK0 : W0.heap[w.heap.size]? = some (.cells (rfcells f (.slice to f.tallies.length tc)) 26 (0, 0)) := by rw [hW0]; exact heap_new0 _ _
  have H0 := Lib.hid (And.intro hB0 hK0)
  clear hW0 hB0 hK0
  go_loopw [3, 4] (fun b u wr => ∃ k : Nat, k ≤ M ∧ u = .int .i64 k ∧ ∃ (es : List LE) (oo : Option Addr) (oc : Nat), b = .slice oo es.length oc ∧ es.length ≤ k ∧ es.map (·.2) = rtruthsTo f k ∧ Les W0.heap.size (.slice oo es.length oc) es wr ∧ Below W0.heap.size W0 wr) (fun _ u _ => M - (intOf u).toNat)
  case atStart => exact ⟨0, Nat.zero_le _, rfl, [], none, 0, rfl, Nat.le_refl _, rfl, ⟨⟨rfl, .inl ⟨rfl, rfl⟩⟩, fun e he => by cases he⟩, Below.refl _ _⟩
  case round =>
    obtain ⟨k, hk, rfl, es, oo, oc, rfl, hek, hes, hT, hB⟩ := hrel
    obtain ⟨hc1, hf1, hs1⟩ := cells_of_block ((hB.block _ (cells_of_block H0.out.2).2.2).trans H0.out.2)
    have HES := Lib.hid hes
    have HLS := Lib.hid hT
    have HB := Lib.hid (And.intro hB (bgo H0.out.1 hB))
    clear hes hT hB
    go_wp2_with fail
    refine (HMA.out _).mono ?_
    rintro e W2 ⟨rfl, hb2⟩
    have HB2 := Lib.hid hb2
    obtain ⟨hc2, hf2, hs2⟩ := cells_of_block ((hb2.block _ hs1).trans ((HB.out.1.block _ (cells_of_block H0.out.2).2.2).trans H0.out.2))
    clear hb2 hc1 hf1
    by_cases hlt : k < M
    case neg =>
      obtain rfl : k = M := by omega
      go_wp2_with fail
      go_returns
      have HL2 := HLS.out.ext (Ext.of_below HB2.out)
      exact ⟨.slice oo es.length oc, es, by simp, ⟨owns_base HL2.row H0.out.1.size, fun e he => ⟨owns_base (HL2.each e he).1 H0.out.1.size, (HL2.each e he).2⟩⟩, by rw [HES.out, HEND.out], bgo HB.out.2 HB2.out⟩
    have hltI : (k : Int) < M := by omega
    go_wp2_with fail
    refine (HNT.out k hlt _).mono ?_
    have hxm := HMEM.out (k : Int)
    obtain ⟨x, hx⟩ : ∃ x, nthW (rangesF f) (k : Int) = x := ⟨_, rfl⟩
    rw [hx] at hxm ⊢
    rintro e W3 ⟨v3, rfl, ho3, hb3⟩
    obtain ⟨o3, c3, rfl⟩ := owns_slice ho3
    have hiv := SlAt.of_owns ho3
    have hx7 := HLN.out x hxm
    have HIX := Lib.hid (HIT.out x hxm (.slice o3 x.length c3) W3 (HT.out.below (bgo HB.out.2 (bgo HB2.out hb3)) (Nat.le_refl _)) hiv)
    obtain ⟨q, hq⟩ : ∃ q, rightF f [] x = q := ⟨_, rfl⟩
    rw [hq] at HIX
    have HXQ := Lib.hid (And.intro hx hq)
    have HO3 := Lib.hid (And.intro ho3 hb3)
    obtain ⟨hc3, hf3, hs3⟩ := cells_of_block ((hb3.block _ hs2).trans ((HB2.out.block _ hs1).trans ((HB.out.1.block _ (cells_of_block H0.out.2).2.2).trans H0.out.2)))
    have hx7' : x.length ≤ 7 := by omega
    clear ho3 hb3 hxm hx hq hiv hx7 hc2 hf2 hs2 hs1
    go_wp2_with fail
    refine HIX.out.mono ?_
    rintro e W4 ⟨rfl, hb4⟩
    have HB4 := Lib.hid (And.intro hb4 (bgo HB.out.1 (bgo HB2.out (bgo HO3.out.2 hb4))))
    clear hb4 hc3 hf3
    cases q
    · go_wp2_with fail
      go_roundw
      case rel =>
        refine ⟨k + 1, by omega, by go_num, es, oo, oc, rfl, by omega, ?_, HLS.out.ext ((Ext.of_below HB2.out).trans ((Ext.of_below HO3.out.2).trans (Ext.of_below HB4.out.1))), HB4.out.2⟩
        unfold rtruthsTo
        rw [HXQ.out.1, HXQ.out.2, if_neg (by simp)]
        exact HES.out
      case measure => simp [intOf]; omega
    · have hz4 := HB4.out.2.size
      have hE4 : Ext [] wr W4 := (Ext.of_below HB2.out).trans ((Ext.of_below HO3.out.2).trans (Ext.of_below HB4.out.1))
      have HE4 := Lib.hid hE4
      clear hE4
      go_wp2_with (at_builtin; go_loud (refine wpList_append_at rfl _ _ tLists rfl W0.heap.size (.slice oo es.length oc) es.length (leCells es) rfl (owns_ext (Ms := []) HLS.out.row (HE4.out.trans (Ext.of_below ((Below.refl _ _).alloc (Nat.le_refl _) _))) (by simp)) (.slice (some ⟨W4.heap.size, 0, none⟩) 1 1) 1 [.slice o3 x.length c3] rfl (SlAt.of_block 1 1 (heap_new0 _ _) rfl (by decide)) (by intro u hu; simp at hu; subst hu; rfl) (by omega) (by omega) (by simp; omega) ?_))
      intro v' W6 hown6 hgr6 hn6
      obtain ⟨o6, c6, rfl⟩ := owns_slice hown6
      have hzr : wr.heap.size ≤ W2.heap.size := HB2.out.size
      have hpu := ap_push0 HB.out.1 HLS.out.row (HE4.out.trans (Ext.of_below ((Below.refl _ _).alloc (Nat.le_refl _) _))) hown6 hgr6 (Nat.le_refl _) HB.out.1.size
      have HTP := Lib.hid (les_push (e := (.slice o3 x.length c3, x)) HLS.out (HE4.out.trans (Ext.of_below ((Below.refl _ _).alloc (Nat.le_refl _) _))) hgr6 (by rw [World.size_alloc]; exact hn6) hown6 (owns_base (owns_ext (Ms := []) HO3.out.1 ((Ext.of_below HB4.out.1).trans (Ext.of_below ((Below.refl _ _).alloc (Nat.le_refl _) _))) (by simp)) hzr) HB.out.1.size)
      have HP := Lib.hid hpu
      clear hpu hown6 hgr6 hn6
      go_wp2_with fail
      go_roundw
      case rel =>
        refine ⟨k + 1, by omega, by go_num, es ++ [(.slice o3 x.length c3, x)], o6, c6, by simp, by simp; omega, ?_, by simpa using HTP.out, HP.out.1⟩
        unfold rtruthsTo
        rw [HXQ.out.1, HXQ.out.2, if_pos rfl, List.map_append, HES.out]
        rfl
      case measure => simp [intOf]; omega

end Go.Proofs.YtdjgikcnmokjkaaGreat

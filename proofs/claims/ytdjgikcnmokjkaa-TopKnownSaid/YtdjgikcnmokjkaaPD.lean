/-
  Contracts of package weed, fourth part: whether all tallies but some are right.
-/
import Derived.WalkKit
import Derived.WalkLawsBesides
import Derived.WalkSpells
import Derived.Outline
import Derived.Handy
import Derived.KernelRfl
import Derived.Lib.Hide
import Derived.Deep.Cut
import Derived.Test.YtdjgikcnmokjkaaK
namespace Go.Proofs.Ytdjgikcnmokjkaa
open Go.RowKit Go.RG Go.SL Go.Shelf Cou Go.TB
set_option maxHeartbeats 400000
set_option maxRecDepth 10000

abbrev fcells (f : FieldD) (tv : Value) : Array Value := #[iv f.rows, iv f.weeders, iv f.left.1, iv f.left.2, tv]

/-- What right works with: the field, the answers, the table of what is known. -/
structure RtSt (w : World) (f : FieldD) (tv : Value) (xs : List Int) (W : World) : Prop where
  b0 : W.heap[w.heap.size]? = some (.cells (fcells f tv) 36 (0, 0))
  b1 : W.heap[w.heap.size + 1]? = some (.cells (intCells xs).toArray 96 (0, 0))
  tab : ∃ T : List (Str × Int), TabAt strv iv (fun _ => True) W (w.heap.size + 2) T ∧ ∀ k n, TB.look k T = some n → n = didT xs k.1 k.2.1 k.2.2
  below : Below w.heap.size w W

theorem RtSt.next {w : World} {f : FieldD} {tv : Value} {xs : List Int} {W W' : World} (h : RtSt w f tv xs W) (hb : Below W.heap.size W W') : RtSt w f tv xs W' := by
  obtain ⟨T, h1, h2⟩ := h.tab
  exact ⟨(hb.block _ (Array.getElem?_eq_some_iff.1 h.b0).1).trans h.b0, (hb.block _ (Array.getElem?_eq_some_iff.1 h.b1).1).trans h.b1, ⟨T, h1.below hb (Nat.le_refl _), h2⟩,
    h.below.trans (hb.mono h.below.size)⟩

/-- The tallies so far. -/
def okTo (f : FieldD) (out xs : List Int) (k : Nat) : Bool := (List.range k).all fun i => out.contains (i : Int) || tallyR xs (f.tallies.getD i (0, 0, 0, (0, 0)))

theorem countT_any (xs : List Int) (hx : xs.length = 7) (who a b : Int) (h0 : 0 ≤ a) (h1 : a ≤ b) (h2 : b < 7) (w : World) :
    Calls Try.prog 80 #[aggI xs, iv who, iv a, iv b] w (PV (iv (didT xs who a b)) w) := by
  have := count_any xs hx who a.toNat (b + 1 - a).toNat b (by omega) (by omega) (by omega) w
  rw [show ((a.toNat : Nat) : Int) = a from by omega] at this
  exact this

theorem right_any (f : FieldD) (hS : SoundF f) (o : Option Addr) (c : Nat) (xs : List Int) (hx : xs.length = 7) (ov : Value) (out : List Int) (w : World) (ht : TalliesAt w (.slice o f.tallies.length c) f.tallies) (ho : IntsAt w ov out) :
    Calls Try.prog 55 #[fv f (.slice o f.tallies.length c), aggI xs, ov] w (PV (.bool (rightF f out xs)) w) := by
  obtain ⟨oo, oc, rfl⟩ := ho.open
  have hmm := @run_makeMap Try.prog
  obtain ⟨x0, x1, x2, x3, x4, x5, x6, hxs⟩ := seven_of hx
  have hag : aggI xs = .agg #[iv x0, iv x1, iv x2, iv x3, iv x4, iv x5, iv x6] := by rw [hxs]; rfl
  have hce : (intCells xs).toArray = #[iv x0, iv x1, iv x2, iv x3, iv x4, iv x5, iv x6] := by rw [hxs]; rfl
  have HCN := Lib.hid (fun who a b h0 h1 h2 w => hag ▸ countT_any xs hx who a b h0 h1 h2 w)
  rw [hag]
  have hlen : f.tallies.length ≤ 5 := hS.tals
  have HS := Lib.hid hS
  have HT := Lib.hid ht
  have HO := Lib.hid ho
  have HX := Lib.hid (And.intro hx hce)
  clear hS ht ho hx hxs hag hce
  go_enter Try.func55, Try.ntmps55
  go_upto_region 2 with (fail)
  refine gworld fun W1 hW1 => ?_
  have hst : RtSt w f (.slice o f.tallies.length c) xs W1 := by
    rw [hW1]
    refine ⟨(Below.heap_alloc _ _ _ (by simp; omega)).trans ((Below.heap_alloc _ _ _ (by simp)).trans (heap_new0 _ _)), ?_, ⟨[], new_tab (heap_new2 _ _ _ _), fun k n h => by cases h⟩, (by repeat (first | exact Below.refl _ _ | assumption | refine bgo ?_ (by assumption) | refine bgoAlloc ?_ _ | refine bgoDrew ?_ | refine bgoSet ?_ (by simp; omega) _))⟩
    rw [HX.out.2]
    exact (Below.heap_alloc _ _ _ (by simp)).trans (heap_new1 _ _ _)
  clear hW1 hmm
  have c0 := cells_of_block hst.b0
  obtain ⟨cc0, cf0, cl0⟩ := c0
  have HST := Lib.hid hst
  clear hst
  go_wp2_with fail
  go_loopw [17] (fun i wr => ∃ k : Nat, k ≤ f.tallies.length ∧ i = .int .i64 k ∧ okTo f out xs k = true ∧ RtSt w f (.slice o f.tallies.length c) xs wr) (fun i _ => f.tallies.length - (intOf i).toNat)
  case atStart => exact ⟨0, Nat.zero_le _, rfl, rfl, HST.out⟩
  case round =>
    obtain ⟨k, hk, rfl, hok, hst⟩ := hrel
    obtain ⟨cc1, cf1, cl1⟩ := cells_of_block hst.b0
    have hb1 := hst.b1
    rw [HX.out.2] at hb1
    obtain ⟨cc2, cf2, cl2⟩ := cells_of_block hb1
    have HSt := Lib.hid hst
    have HOK := Lib.hid hok
    clear hok hb1 cc0 cf0 cl0
    by_cases hlt : k < f.tallies.length
    · have htl := HT.out.below hst.below (Nat.le_refl _)
      obtain ⟨b, off, hv, hb, d0, d1, d2, d3, d4⟩ := TalliesAt.cell htl hlt
      clear hst htl
      have htal := HS.out.tal _ (List.getElem_mem hlt)
      generalize htk : f.tallies[k] = t at *
      obtain ⟨tw, ta, tb, tlo, thi⟩ := t
      obtain ⟨⟨q1, q2⟩, ⟨q3, q4, q5⟩, ⟨q6, q7, q8⟩⟩ := htal
      cases hv
      simp only at d0 d1 d2 d3 d4 q1 q2 q3 q4 q5 q6 q7 q8
      have HTK := Lib.hid htk
      have hr7 := HS.out.rows1
      obtain ⟨D, hD⟩ : ∃ D, didT xs tw ta tb = D := ⟨_, rfl⟩
      have HC1 := Lib.hid (HCN.out tw ta tb q3 q4 (by omega))
      rw [hD] at HC1
      have hDb : 0 ≤ D ∧ D ≤ 7 := by
        rw [← hD]
        have := didL_bd xs tw ta.toNat (tb + 1 - ta).toNat
        unfold didT
        omega
      have HD := Lib.hid hD
      clear htk hD
      go_upto_region 6 with (fail)
      refine gworld fun W6 hW6 => ?_
      have hst6 : RtSt w f (.slice (some ⟨b, off, none⟩) f.tallies.length c) xs W6 := HSt.out.next (by rw [hW6]; exact (by repeat (first | exact Below.refl _ _ | assumption | refine bgo ?_ (by assumption) | refine bgoAlloc ?_ _ | refine bgoDrew ?_ | refine bgoSet ?_ (by simp; omega) _)))
      have hk9 : W6.heap[wr.heap.size]? = some (.cells #[iv tw, iv ta, iv tb, iv tlo, iv thi] 77 (0, 0)) := by rw [hW6]; exact (Below.heap_alloc _ _ _ (by simp)).trans (heap_new0 _ _)
      have hk10 : W6.heap[wr.heap.size + 1]? = some (.cells #[iv tw, iv ta, iv tb] 145 (0, 0)) := by rw [hW6]; exact heap_new1 _ _ _
      obtain ⟨T, hT, hTv⟩ := hst6.tab
      have hlook := fun cm => look_run keyStr (mt := 143) (e := 3) (by kernel_rfl) (z := iv 0) (fun W => by simp [go_sem]) hT (tw, ta, tb) trivial cm W6 rfl
      have HSZ6 := Lib.hid (show W6.heap.size = wr.heap.size + 2 by rw [hW6]; simp)
      clear hW6 cc1 cf1 cl1 cc2 cf2 cl2 d0 d1 d2 d3 d4 hb
      cases hl : TB.look (tw, ta, tb) T with
      | some n =>
        have hnD : n = D := by rw [← HD.out]; exact hTv _ _ hl
        rw [hnD] at hl
        clear hnD
        rw [hl] at hlook
        simp only [Option.map_some, Option.getD_some, Option.isSome_some] at hlook
        have hlk := hlook true
        simp only [if_true] at hlk
        have HLK := Lib.hid (fun W hW => look_run keyStr (mt := 143) (e := 3) (by kernel_rfl) (z := iv 0) (fun W => by simp [go_sem]) hT (tw, ta, tb) trivial false W hW)
        rw [hl] at HLK
        simp only [Option.map_some, Option.getD_some, Option.isSome_some, Bool.false_eq_true, if_false] at HLK
        have HSE := Lib.hid hst6
        obtain ⟨cc9, cf9, cl9⟩ := cells_of_block hk9
        obtain ⟨cc10, cf10, cl10⟩ := cells_of_block hk10
        clear hlook hl hTv hT hst6
        go_upto_region 9 with (fail)
        have hokn : okTo f out xs (k + 1) = (out.contains (k : Int) || inB D tlo thi) := by
          unfold okTo at *
          have h1 := HOK.out
          rw [range_all_succ, h1, Bool.true_and, show f.tallies.getD k (0, 0, 0, (0, 0)) = (tw, ta, tb, (tlo, thi)) from by simp [List.getD, hlt, HTK.out]]
          unfold tallyR
          simp only
          rw [HD.out]
        have HOKN := Lib.hid hokn
        clear hokn
        by_cases hoc : out.contains (k : Int) = true
        · have HOC := Lib.hid hoc
          clear hoc
          refine wp_region_rg 13 [] none [(2, Spec.val (.bool true))] (by kernel_rfl) (by kernel_rfl) ?_
          simp only [List.take_succ_cons, List.take_zero, List.drop_succ_cons, List.drop_zero]
          repeat (first | (refine tree_det (by rfl) _ (by rfl) (fun W hW => by go_simp; (try simp (disch := omega) only [IntWalk.i64_in]); try rfl) ?_; simp only [Act.put, List.setIfInBounds_toArray, List.set_cons_succ, List.set_cons_zero]) | (refine tree_skip (by rfl) (by rfl) ?_; simp only [Act.put, List.setIfInBounds_toArray, List.set_cons_succ, List.set_cons_zero]))
          refine tree_val _ (by rfl) (by rfl) 89 _ (fun W hW => by go_simp; try rfl) (fun W hE hF => by exact (by have := contains_any out (.slice oo out.length oc) (k : Int) W (HO.out.below (HSE.out.next hE.below).below (Nat.le_refl _)); rw [HOC.out] at this; exact this)) ?_
          simp only [Act.put, List.setIfInBounds_toArray, List.set_cons_succ, List.set_cons_zero]
          repeat (first | (refine tree_det (by rfl) _ (by rfl) (fun W hW => by go_simp; (try simp (disch := omega) only [IntWalk.i64_in]); try rfl) ?_; simp only [Act.put, List.setIfInBounds_toArray, List.set_cons_succ, List.set_cons_zero]) | (refine tree_skip (by rfl) (by rfl) ?_; simp only [Act.put, List.setIfInBounds_toArray, List.set_cons_succ, List.set_cons_zero]))
          intro W hE hF
          obtain ⟨hc, hf⟩ := bcell hE.below
          have hzE := hE.size
          (try simp only [World.size_alloc] at hzE)
          have HSN := Lib.hid (HSE.out.next hE.below)
          clear hE hF
          go_wp2_with fail
          go_roundw
          case rel => exact ⟨k + 1, by omega, by go_num, by rw [HOKN.out, HOC.out]; rfl, HSN.out⟩
          case measure => simp [intOf]; omega
        · have hoc' : out.contains (k : Int) = false := by simpa using hoc
          have HOC := Lib.hid hoc'
          clear hoc hoc'
          obtain ⟨q, hq⟩ : ∃ q, inB D tlo thi = q := ⟨_, rfl⟩
          have HQ := Lib.hid hq
          clear hq
          cases q
          · skip
            refine wp_region_rg 13 [] none [(2, Spec.val (.bool false)), (10, Spec.val (.bool false))] (by kernel_rfl) (by kernel_rfl) ?_
            simp only [List.take_succ_cons, List.take_zero, List.drop_succ_cons, List.drop_zero]
            repeat (first | (refine tree_det (by rfl) _ (by rfl) (fun W hW => by go_simp; (try simp (disch := omega) only [IntWalk.i64_in]); try rfl) ?_; simp only [Act.put, List.setIfInBounds_toArray, List.set_cons_succ, List.set_cons_zero]) | (refine tree_skip (by rfl) (by rfl) ?_; simp only [Act.put, List.setIfInBounds_toArray, List.set_cons_succ, List.set_cons_zero]))
            refine tree_val _ (by rfl) (by rfl) 89 _ (fun W hW => by go_simp; try rfl) (fun W hE hF => by exact (by have := contains_any out (.slice oo out.length oc) (k : Int) W (HO.out.below (HSE.out.next hE.below).below (Nat.le_refl _)); rw [HOC.out] at this; exact this)) ?_
            simp only [Act.put, List.setIfInBounds_toArray, List.set_cons_succ, List.set_cons_zero]
            repeat (first | (refine tree_det (by rfl) _ (by rfl) (fun W hW => by go_simp; (try simp (disch := omega) only [IntWalk.i64_in]); try rfl) ?_; simp only [Act.put, List.setIfInBounds_toArray, List.set_cons_succ, List.set_cons_zero]) | (refine tree_skip (by rfl) (by rfl) ?_; simp only [Act.put, List.setIfInBounds_toArray, List.set_cons_succ, List.set_cons_zero]))
            refine tree_det_on (by rfl) _ (by rfl) (fun W hE _ => by have := HLK.out W (hE.block _ HSE.out.tab.choose_spec.1.lt (by simp)); go_simp; try rfl) ?_
            simp only [Act.put, List.setIfInBounds_toArray, List.set_cons_succ, List.set_cons_zero]
            refine tree_val _ (by rfl) (by rfl) 90 _ (fun W hW => by go_simp; try rfl) (fun W hE hF => by exact (by have := whas_any (tlo, thi) D W; rw [HQ.out] at this; exact this)) ?_
            simp only [Act.put, List.setIfInBounds_toArray, List.set_cons_succ, List.set_cons_zero]
            repeat (first | (refine tree_det (by rfl) _ (by rfl) (fun W hW => by go_simp; (try simp (disch := omega) only [IntWalk.i64_in]); try rfl) ?_; simp only [Act.put, List.setIfInBounds_toArray, List.set_cons_succ, List.set_cons_zero]) | (refine tree_skip (by rfl) (by rfl) ?_; simp only [Act.put, List.setIfInBounds_toArray, List.set_cons_succ, List.set_cons_zero]))
            intro W hE hF
            obtain ⟨hc, hf⟩ := bcell hE.below
            have hzE := hE.size
            (try simp only [World.size_alloc] at hzE)
            have HSN := Lib.hid (HSE.out.next hE.below)
            clear hE hF
            go_wp2_with fail
            go_returns
            refine ⟨?_, HSN.out.below⟩
            have : rightF f out xs = false := by
              have h1 := HOKN.out
              rw [HOC.out, HQ.out] at h1
              cases hr : rightF f out xs
              · rfl
              · unfold rightF at hr
                rw [Bool.and_eq_true, List.all_eq_true] at hr
                unfold okTo at h1
                have : ((List.range (k + 1)).all fun i => out.contains (i : Int) || tallyR xs (f.tallies.getD i (0, 0, 0, (0, 0)))) = true := by
                  rw [List.all_eq_true]
                  exact fun i hi => hr.1 i (List.mem_range.2 (by have := List.mem_range.1 hi; omega))
                rw [this] at h1
                cases h1
            rw [this]
            simp
          · skip
            refine wp_region_rg 13 [] none [(2, Spec.val (.bool false)), (10, Spec.val (.bool true))] (by kernel_rfl) (by kernel_rfl) ?_
            simp only [List.take_succ_cons, List.take_zero, List.drop_succ_cons, List.drop_zero]
            repeat (first | (refine tree_det (by rfl) _ (by rfl) (fun W hW => by go_simp; (try simp (disch := omega) only [IntWalk.i64_in]); try rfl) ?_; simp only [Act.put, List.setIfInBounds_toArray, List.set_cons_succ, List.set_cons_zero]) | (refine tree_skip (by rfl) (by rfl) ?_; simp only [Act.put, List.setIfInBounds_toArray, List.set_cons_succ, List.set_cons_zero]))
            refine tree_val _ (by rfl) (by rfl) 89 _ (fun W hW => by go_simp; try rfl) (fun W hE hF => by exact (by have := contains_any out (.slice oo out.length oc) (k : Int) W (HO.out.below (HSE.out.next hE.below).below (Nat.le_refl _)); rw [HOC.out] at this; exact this)) ?_
            simp only [Act.put, List.setIfInBounds_toArray, List.set_cons_succ, List.set_cons_zero]
            repeat (first | (refine tree_det (by rfl) _ (by rfl) (fun W hW => by go_simp; (try simp (disch := omega) only [IntWalk.i64_in]); try rfl) ?_; simp only [Act.put, List.setIfInBounds_toArray, List.set_cons_succ, List.set_cons_zero]) | (refine tree_skip (by rfl) (by rfl) ?_; simp only [Act.put, List.setIfInBounds_toArray, List.set_cons_succ, List.set_cons_zero]))
            refine tree_det_on (by rfl) _ (by rfl) (fun W hE _ => by have := HLK.out W (hE.block _ HSE.out.tab.choose_spec.1.lt (by simp)); go_simp; try rfl) ?_
            simp only [Act.put, List.setIfInBounds_toArray, List.set_cons_succ, List.set_cons_zero]
            refine tree_val _ (by rfl) (by rfl) 90 _ (fun W hW => by go_simp; try rfl) (fun W hE hF => by exact (by have := whas_any (tlo, thi) D W; rw [HQ.out] at this; exact this)) ?_
            simp only [Act.put, List.setIfInBounds_toArray, List.set_cons_succ, List.set_cons_zero]
            repeat (first | (refine tree_det (by rfl) _ (by rfl) (fun W hW => by go_simp; (try simp (disch := omega) only [IntWalk.i64_in]); try rfl) ?_; simp only [Act.put, List.setIfInBounds_toArray, List.set_cons_succ, List.set_cons_zero]) | (refine tree_skip (by rfl) (by rfl) ?_; simp only [Act.put, List.setIfInBounds_toArray, List.set_cons_succ, List.set_cons_zero]))
            intro W hE hF
            obtain ⟨hc, hf⟩ := bcell hE.below
            have hzE := hE.size
            (try simp only [World.size_alloc] at hzE)
            have HSN := Lib.hid (HSE.out.next hE.below)
            clear hE hF
            go_wp2_with fail
            go_roundw
            case rel => exact ⟨k + 1, by omega, by go_num, by rw [HOKN.out, HOC.out, HQ.out]; rfl, HSN.out⟩
            case measure => simp [intOf]; omega
      | none =>
        rw [hl] at hlook
        simp only [Option.map_none, Option.getD_none, Option.isSome_none] at hlook
        have hlk := hlook true
        simp only [if_true] at hlk
        obtain ⟨cc0, cf0, cl0⟩ := cells_of_block hst6.b0
        have hb1 := hst6.b1
        rw [HX.out.2] at hb1
        obtain ⟨cc1, cf1, cl1⟩ := cells_of_block hb1
        obtain ⟨cc9, cf9, cl9⟩ := cells_of_block hk9
        obtain ⟨cc10, cf10, cl10⟩ := cells_of_block hk10
        have HS6 := Lib.hid hst6
        have HTT := Lib.hid (And.intro hT hTv)
        clear hlook hl hTv hT hst6 hb1
        go_upto_region 8 with (fail)
        refine wp_region_rg 10 [] none [(9, Spec.val (iv D))] (by kernel_rfl) (by kernel_rfl) ?_
        simp only [List.take_succ_cons, List.take_zero, List.drop_succ_cons, List.drop_zero]
        repeat (first | (refine tree_det (by rfl) _ (by rfl) (fun W hW => by go_simp; (try simp (disch := omega) only [IntWalk.i64_in]); try rfl) ?_; simp only [Act.put, List.setIfInBounds_toArray, List.set_cons_succ, List.set_cons_zero]) | (refine tree_skip (by rfl) (by rfl) ?_; simp only [Act.put, List.setIfInBounds_toArray, List.set_cons_succ, List.set_cons_zero]))
        refine tree_val _ (by rfl) (by rfl) 80 _ (fun W hW => by go_simp; try rfl) (fun W hE hF => by exact HC1.out W) ?_
        simp only [Act.put, List.setIfInBounds_toArray, List.set_cons_succ, List.set_cons_zero]
        intro W hE hF
        obtain ⟨hc, hf⟩ := bcell hE.below
        have hzE := hE.size
        (try simp only [World.size_alloc] at hzE)
        have hTW : TabAt strv iv (fun _ => True) W (w.heap.size + 2) T := HTT.out.1.below hE.below (Nat.le_refl _)
        obtain ⟨W8, hrun, hT8, hE8⟩ := store_run keyStr (mt := 143) (e := 3) (by kernel_rfl) hTW (tw, ta, tb) trivial D
        have hstW := HS6.out.next hE.below
        have hst8 : RtSt w f (.slice (some ⟨b, off, none⟩) f.tallies.length c) xs W8 := by
          refine ⟨(hE8.block _ (Array.getElem?_eq_some_iff.1 hstW.b0).1 (by simp)).trans hstW.b0, (hE8.block _ (Array.getElem?_eq_some_iff.1 hstW.b1).1 (by simp)).trans hstW.b1, ⟨_, hT8, fun k n h => ?_⟩, below_of_ext hstW.below hE8 (by omega)⟩
          rw [look_store] at h
          split at h
          · rename_i he
            subst he
            cases h
            exact HD.out.symm
          · exact HTT.out.2 _ _ h
        have hk9' : W8.heap[wr.heap.size]? = some (.cells #[iv tw, iv ta, iv tb, iv tlo, iv thi] 77 (0, 0)) :=
          (hE8.block _ (by have := hE.size; omega) (by have := HSt.out.tab.choose_spec.1.lt; simp; omega)).trans ((hE.block _ cl9 (by simp)).trans hk9)
        have hk10' : W8.heap[wr.heap.size + 1]? = some (.cells #[iv tw, iv ta, iv tb] 145 (0, 0)) :=
          (hE8.block _ (by have := hE.size; omega) (by have := HSt.out.tab.choose_spec.1.lt; simp; omega)).trans ((hE.block _ cl10 (by simp)).trans hk10)
        have HLK := Lib.hid (fun W hW => look_run keyStr (mt := 143) (e := 3) (by kernel_rfl) (z := iv 0) (fun W => by simp [go_sem]) hT8 (tw, ta, tb) trivial false W hW)
        rw [look_store, if_pos rfl] at HLK
        simp only [Option.map_some, Option.getD_some, Option.isSome_some, Bool.false_eq_true, if_false] at HLK
        have HSE := Lib.hid hst8
        clear hT8 hE8 hstW hst8 hTW hE hF cc0 cf0 cl0 cc1 cf1 cl1 cc9 cf9 cl9 cc10 cf10 cl10 hc hf hlk
        go_upto_region 9 with (fail)
        clear hrun
        obtain ⟨cc9, cf9, cl9⟩ := cells_of_block hk9'
        obtain ⟨cc10, cf10, cl10⟩ := cells_of_block hk10'
        have hokn : okTo f out xs (k + 1) = (out.contains (k : Int) || inB D tlo thi) := by
          unfold okTo at *
          have h1 := HOK.out
          rw [range_all_succ, h1, Bool.true_and, show f.tallies.getD k (0, 0, 0, (0, 0)) = (tw, ta, tb, (tlo, thi)) from by simp [List.getD, hlt, HTK.out]]
          unfold tallyR
          simp only
          rw [HD.out]
        have HOKN := Lib.hid hokn
        clear hokn
        by_cases hoc : out.contains (k : Int) = true
        · have HOC := Lib.hid hoc
          clear hoc
          refine wp_region_rg 13 [] none [(2, Spec.val (.bool true))] (by kernel_rfl) (by kernel_rfl) ?_
          simp only [List.take_succ_cons, List.take_zero, List.drop_succ_cons, List.drop_zero]
          repeat (first | (refine tree_det (by rfl) _ (by rfl) (fun W hW => by go_simp; (try simp (disch := omega) only [IntWalk.i64_in]); try rfl) ?_; simp only [Act.put, List.setIfInBounds_toArray, List.set_cons_succ, List.set_cons_zero]) | (refine tree_skip (by rfl) (by rfl) ?_; simp only [Act.put, List.setIfInBounds_toArray, List.set_cons_succ, List.set_cons_zero]))
          refine tree_val _ (by rfl) (by rfl) 89 _ (fun W hW => by go_simp; try rfl) (fun W hE hF => by exact (by have := contains_any out (.slice oo out.length oc) (k : Int) W (HO.out.below (HSE.out.next hE.below).below (Nat.le_refl _)); rw [HOC.out] at this; exact this)) ?_
          simp only [Act.put, List.setIfInBounds_toArray, List.set_cons_succ, List.set_cons_zero]
          repeat (first | (refine tree_det (by rfl) _ (by rfl) (fun W hW => by go_simp; (try simp (disch := omega) only [IntWalk.i64_in]); try rfl) ?_; simp only [Act.put, List.setIfInBounds_toArray, List.set_cons_succ, List.set_cons_zero]) | (refine tree_skip (by rfl) (by rfl) ?_; simp only [Act.put, List.setIfInBounds_toArray, List.set_cons_succ, List.set_cons_zero]))
          intro W hE hF
          obtain ⟨hc, hf⟩ := bcell hE.below
          have hzE := hE.size
          (try simp only [World.size_alloc] at hzE)
          have HSN := Lib.hid (HSE.out.next hE.below)
          clear hE hF
          go_wp2_with fail
          go_roundw
          case rel => exact ⟨k + 1, by omega, by go_num, by rw [HOKN.out, HOC.out]; rfl, HSN.out⟩
          case measure => simp [intOf]; omega
        · have hoc' : out.contains (k : Int) = false := by simpa using hoc
          have HOC := Lib.hid hoc'
          clear hoc hoc'
          obtain ⟨q, hq⟩ : ∃ q, inB D tlo thi = q := ⟨_, rfl⟩
          have HQ := Lib.hid hq
          clear hq
          cases q
          · skip
            refine wp_region_rg 13 [] none [(2, Spec.val (.bool false)), (10, Spec.val (.bool false))] (by kernel_rfl) (by kernel_rfl) ?_
            simp only [List.take_succ_cons, List.take_zero, List.drop_succ_cons, List.drop_zero]
            repeat (first | (refine tree_det (by rfl) _ (by rfl) (fun W hW => by go_simp; (try simp (disch := omega) only [IntWalk.i64_in]); try rfl) ?_; simp only [Act.put, List.setIfInBounds_toArray, List.set_cons_succ, List.set_cons_zero]) | (refine tree_skip (by rfl) (by rfl) ?_; simp only [Act.put, List.setIfInBounds_toArray, List.set_cons_succ, List.set_cons_zero]))
            refine tree_val _ (by rfl) (by rfl) 89 _ (fun W hW => by go_simp; try rfl) (fun W hE hF => by exact (by have := contains_any out (.slice oo out.length oc) (k : Int) W (HO.out.below (HSE.out.next hE.below).below (Nat.le_refl _)); rw [HOC.out] at this; exact this)) ?_
            simp only [Act.put, List.setIfInBounds_toArray, List.set_cons_succ, List.set_cons_zero]
            repeat (first | (refine tree_det (by rfl) _ (by rfl) (fun W hW => by go_simp; (try simp (disch := omega) only [IntWalk.i64_in]); try rfl) ?_; simp only [Act.put, List.setIfInBounds_toArray, List.set_cons_succ, List.set_cons_zero]) | (refine tree_skip (by rfl) (by rfl) ?_; simp only [Act.put, List.setIfInBounds_toArray, List.set_cons_succ, List.set_cons_zero]))
            refine tree_det_on (by rfl) _ (by rfl) (fun W hE _ => by have := HLK.out W (hE.block _ HSE.out.tab.choose_spec.1.lt (by simp)); go_simp; try rfl) ?_
            simp only [Act.put, List.setIfInBounds_toArray, List.set_cons_succ, List.set_cons_zero]
            refine tree_val _ (by rfl) (by rfl) 90 _ (fun W hW => by go_simp; try rfl) (fun W hE hF => by exact (by have := whas_any (tlo, thi) D W; rw [HQ.out] at this; exact this)) ?_
            simp only [Act.put, List.setIfInBounds_toArray, List.set_cons_succ, List.set_cons_zero]
            repeat (first | (refine tree_det (by rfl) _ (by rfl) (fun W hW => by go_simp; (try simp (disch := omega) only [IntWalk.i64_in]); try rfl) ?_; simp only [Act.put, List.setIfInBounds_toArray, List.set_cons_succ, List.set_cons_zero]) | (refine tree_skip (by rfl) (by rfl) ?_; simp only [Act.put, List.setIfInBounds_toArray, List.set_cons_succ, List.set_cons_zero]))
            intro W hE hF
            obtain ⟨hc, hf⟩ := bcell hE.below
            have hzE := hE.size
            (try simp only [World.size_alloc] at hzE)
            have HSN := Lib.hid (HSE.out.next hE.below)
            clear hE hF
            go_wp2_with fail
            go_returns
            refine ⟨?_, HSN.out.below⟩
            have : rightF f out xs = false := by
              have h1 := HOKN.out
              rw [HOC.out, HQ.out] at h1
              cases hr : rightF f out xs
              · rfl
              · unfold rightF at hr
                rw [Bool.and_eq_true, List.all_eq_true] at hr
                unfold okTo at h1
                have : ((List.range (k + 1)).all fun i => out.contains (i : Int) || tallyR xs (f.tallies.getD i (0, 0, 0, (0, 0)))) = true := by
                  rw [List.all_eq_true]
                  exact fun i hi => hr.1 i (List.mem_range.2 (by have := List.mem_range.1 hi; omega))
                rw [this] at h1
                cases h1
            rw [this]
            simp
          · skip
            refine wp_region_rg 13 [] none [(2, Spec.val (.bool false)), (10, Spec.val (.bool true))] (by kernel_rfl) (by kernel_rfl) ?_
            simp only [List.take_succ_cons, List.take_zero, List.drop_succ_cons, List.drop_zero]
            repeat (first | (refine tree_det (by rfl) _ (by rfl) (fun W hW => by go_simp; (try simp (disch := omega) only [IntWalk.i64_in]); try rfl) ?_; simp only [Act.put, List.setIfInBounds_toArray, List.set_cons_succ, List.set_cons_zero]) | (refine tree_skip (by rfl) (by rfl) ?_; simp only [Act.put, List.setIfInBounds_toArray, List.set_cons_succ, List.set_cons_zero]))
            refine tree_val _ (by rfl) (by rfl) 89 _ (fun W hW => by go_simp; try rfl) (fun W hE hF => by exact (by have := contains_any out (.slice oo out.length oc) (k : Int) W (HO.out.below (HSE.out.next hE.below).below (Nat.le_refl _)); rw [HOC.out] at this; exact this)) ?_
            simp only [Act.put, List.setIfInBounds_toArray, List.set_cons_succ, List.set_cons_zero]
            repeat (first | (refine tree_det (by rfl) _ (by rfl) (fun W hW => by go_simp; (try simp (disch := omega) only [IntWalk.i64_in]); try rfl) ?_; simp only [Act.put, List.setIfInBounds_toArray, List.set_cons_succ, List.set_cons_zero]) | (refine tree_skip (by rfl) (by rfl) ?_; simp only [Act.put, List.setIfInBounds_toArray, List.set_cons_succ, List.set_cons_zero]))
            refine tree_det_on (by rfl) _ (by rfl) (fun W hE _ => by have := HLK.out W (hE.block _ HSE.out.tab.choose_spec.1.lt (by simp)); go_simp; try rfl) ?_
            simp only [Act.put, List.setIfInBounds_toArray, List.set_cons_succ, List.set_cons_zero]
            refine tree_val _ (by rfl) (by rfl) 90 _ (fun W hW => by go_simp; try rfl) (fun W hE hF => by exact (by have := whas_any (tlo, thi) D W; rw [HQ.out] at this; exact this)) ?_
            simp only [Act.put, List.setIfInBounds_toArray, List.set_cons_succ, List.set_cons_zero]
            repeat (first | (refine tree_det (by rfl) _ (by rfl) (fun W hW => by go_simp; (try simp (disch := omega) only [IntWalk.i64_in]); try rfl) ?_; simp only [Act.put, List.setIfInBounds_toArray, List.set_cons_succ, List.set_cons_zero]) | (refine tree_skip (by rfl) (by rfl) ?_; simp only [Act.put, List.setIfInBounds_toArray, List.set_cons_succ, List.set_cons_zero]))
            intro W hE hF
            obtain ⟨hc, hf⟩ := bcell hE.below
            have hzE := hE.size
            (try simp only [World.size_alloc] at hzE)
            have HSN := Lib.hid (HSE.out.next hE.below)
            clear hE hF
            go_wp2_with fail
            go_roundw
            case rel => exact ⟨k + 1, by omega, by go_num, by rw [HOKN.out, HOC.out, HQ.out]; rfl, HSN.out⟩
            case measure => simp [intOf]; omega
    · have hkl : k = f.tallies.length := by omega
      subst hkl
      have hxs2 : aggI xs = .agg #[iv x0, iv x1, iv x2, iv x3, iv x4, iv x5, iv x6] := congrArg Value.agg HX.out.2
      have HL := Lib.hid (fun W => hxs2 ▸ done_any f (.slice o f.tallies.length c) xs HX.out.1 (-1) W HS.out.rows0 HS.out.rows1)
      obtain ⟨d, hd⟩ : ∃ d, doneF f xs (-1) = d := ⟨_, rfl⟩
      obtain ⟨q, hq⟩ : ∃ q, inB d f.left.1 f.left.2 = q := ⟨_, rfl⟩
      have HR : Hid (rightF f out xs = q) := Lib.hid (by
        rw [← hq, ← hd]
        have h1 := HOK.out
        unfold okTo at h1
        unfold rightF
        rw [h1, Bool.true_and]
        rfl)
      have HD := Lib.hid (And.intro hd hq)
      rw [hd] at HL
      clear hd hq hxs2 hst
      go_upto_region 12 with (fail)
      refine wp_region_rg 7 [] none [(4, Spec.val (iv d)), (5, Spec.val (.bool q))] (by kernel_rfl) (by kernel_rfl) ?_
      simp only [List.take_succ_cons, List.take_zero, List.drop_succ_cons, List.drop_zero]
      repeat (first | (refine tree_det (by rfl) _ (by rfl) (fun W hW => by go_simp; (try simp (disch := omega) only [IntWalk.i64_in]); try rfl) ?_; simp only [Act.put, List.setIfInBounds_toArray, List.set_cons_succ, List.set_cons_zero]) | (refine tree_skip (by rfl) (by rfl) ?_; simp only [Act.put, List.setIfInBounds_toArray, List.set_cons_succ, List.set_cons_zero]))
      refine tree_val _ (by rfl) (by rfl) 43 _ (fun W hW => by go_simp; try rfl) (fun W hE hF => by exact HL.out W) ?_
      simp only [Act.put, List.setIfInBounds_toArray, List.set_cons_succ, List.set_cons_zero]
      refine tree_val _ (by rfl) (by rfl) 90 _ (fun W hW => by go_simp; try rfl) (fun W hE hF => by exact (by have := whas_any f.left d W; rw [HD.out.2] at this; exact this)) ?_
      simp only [Act.put, List.setIfInBounds_toArray, List.set_cons_succ, List.set_cons_zero]
      repeat (first | (refine tree_det (by rfl) _ (by rfl) (fun W hW => by go_simp; (try simp (disch := omega) only [IntWalk.i64_in]); try rfl) ?_; simp only [Act.put, List.setIfInBounds_toArray, List.set_cons_succ, List.set_cons_zero]) | (refine tree_skip (by rfl) (by rfl) ?_; simp only [Act.put, List.setIfInBounds_toArray, List.set_cons_succ, List.set_cons_zero]))
      intro W hE hF
      obtain ⟨hc, hf⟩ := bcell hE.below
      have hzE := hE.size
      (try simp only [World.size_alloc] at hzE)
      have HSN := Lib.hid (HSt.out.next hE.below)
      clear hE hF
      go_wp2_with fail
      go_returns
      exact ⟨by rw [HR.out]; simp, HSN.out.below⟩

end Go.Proofs.Ytdjgikcnmokjkaa

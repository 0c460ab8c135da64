/-
  Contracts of package wage, second part: the dues; the iterator of the field's truths.
-/
import Derived.WalkKit
import Derived.WalkLawsBesides
import Derived.WalkSpells
import Derived.Outline
import Derived.Handy
import Derived.KernelRfl
import Derived.Lib.Hide
import Derived.Test.YtdjgikcnmokjkaaQA
namespace Go.Proofs.Ytdjgikcnmokjkaa
open Go.RowKit Go.RG Go.SL Go.Shelf Cou Go.TB
set_option maxHeartbeats 400000
set_option maxRecDepth 10000
attribute [local go_sem] Oper.semAt_some

theorem three_of {l : List Int} (h : l.length = 3) : ∃ a b c, l = [a, b, c] := by
  match l, h with
  | [a, b, c], _ => exact ⟨a, b, c, rfl⟩

theorem dues_any (l : LedgerD) (tv nv rvv : Value) (rows : List Int) (w : World) (hr : IntsAt w rvv rows) (h0 : 0 ≤ l.rate) (h1 : l.rate ≤ 50) (h7 : rows.length ≤ 7) (hb : ∀ x ∈ rows, x < 3) :
    Calls Try.prog 56 #[lv l tv nv, rvv] w (fun e w' => e = .returned (aggI (duesV l.rate rows)) ∧ Below w.heap.size w w' ∧ w.heap.size < w'.heap.size) := by
  obtain ⟨ro, rc, rfl⟩ := hr.open
  have HR := Lib.hid hr
  have HB := Lib.hid hb
  clear hr hb
  go_enter Try.func56, Try.ntmps56
  go_wp2_with fail
  go_loopw [9] (fun u wr => ∃ k : Nat, k ≤ rows.length ∧ u = .int .i64 k ∧ Below w.heap.size w wr ∧ wr.heap[w.heap.size]? = some (.cells (lcells l tv nv) 41 (0, 0)) ∧ wr.heap[w.heap.size + 1]? = some (.cells (intCells (duesV l.rate (rows.take k))).toArray 107 (0, 0))) (fun u _ => rows.length - (intOf u).toNat)
  case atStart =>
    refine ⟨0, Nat.zero_le _, rfl, (by repeat (first | exact Below.refl _ _ | assumption | refine bgo ?_ (by assumption) | refine bgoAlloc ?_ _ | refine bgoDrew ?_ | refine bgoSet ?_ (by simp; omega) _)), (Below.heap_alloc _ _ _ (by simp)).trans (heap_new0 _ _), ?_⟩
    rw [List.take_zero, duesV_nil]
    exact heap_new1 _ _ _
  case round =>
    obtain ⟨k, hk, rfl, hB, hk0, hk1⟩ := hrel
    obtain ⟨c0, f0, l0⟩ := cells_of_block hk0
    by_cases hlt : k < rows.length
    · have hiv := HR.out.below hB (Nat.le_refl _)
      obtain ⟨b, off, rfl, hb, hc0⟩ := IntsAt.cell hiv hlt
      have hx3 := HB.out _ (List.getElem_mem hlt)
      have hsu : rows.take (k + 1) = rows.take k ++ [rows[k]] := List.take_succ_eq_append_getElem hlt
      have hbd := duesV_bd h0 h1 (rows.take k) (by rw [List.length_take]; omega)
      generalize rows[k] = x at *
      have HSU := Lib.hid hsu
      have HK := Lib.hid (And.intro hB (And.intro hk0 hk1))
      have HBD := Lib.hid hbd
      clear hiv hsu hB hk0 hbd
      by_cases hx : 0 ≤ x
      · obtain ⟨n, rfl⟩ : ∃ n : Nat, x = n := ⟨x.toNat, by omega⟩
        have hn3 : n < 3 := by omega
        obtain ⟨d, hd⟩ : ∃ d, (duesV l.rate (rows.take k)).getD n 0 = d := ⟨_, rfl⟩
        have hdb := HBD.out n hn3
        rw [hd] at hdb
        have hcell := cell_of_ints hk1 (show n < (duesV l.rate (rows.take k)).length by rw [duesV_len]; omega)
        rw [show (duesV l.rate (rows.take k))[n]'(by rw [duesV_len]; omega) = d from by rw [← hd]; simp [List.getD, duesV_len, hn3]] at hcell
        have hfr := frozen_of_block hk1 n
        have hl1 := World.block_lt_of_cell? wr _ hcell
        have HD := Lib.hid hd
        clear hd hk1
        go_upto_region 5 with (fail)
        refine wp_region_rg 7 [] none [] (by kernel_rfl) (by kernel_rfl) ?_
        simp only [List.take_succ_cons, List.take_zero, List.drop_succ_cons, List.drop_zero]
        repeat (refine tree_det (by rfl) _ (by rfl) (fun W hW => by go_simp; (try simp (disch := omega) only [IntWalk.i64_in]); try rfl) ?_; simp only [Act.put, List.setIfInBounds_toArray, List.set_cons_succ, List.set_cons_zero])
        intro W hE hF
        obtain ⟨hc, hf⟩ := bcell hE.below
        have hzE := hE.size
        (try simp only [World.size_alloc] at hzE)
        have HE := Lib.hid hE
        clear hF hzE
        go_wp2_with fail
        go_roundw
        case rel =>
          refine ⟨k + 1, by omega, by go_num, bgoSet (bgo HK.out.1 HE.out.below) (by simp) _, (Below.heap_setCell _ _ _ _ (by show w.heap.size ≠ w.heap.size + 1; omega)).trans ((HE.out.block _ l0 (by simp)).trans HK.out.2.1), ?_⟩
          rw [HSU.out, ← duesV_some _ _ _ hn3, HD.out, ← set_ints]
          exact set_block ((HE.out.block _ hl1 (by simp)).trans HK.out.2.2) _
        case measure => simp [intOf]; omega
      · have hxb : decide (0 ≤ x) = false := by simpa using hx
        have HX := Lib.hid hx
        clear hk1
        go_wp2_with fail
        go_roundw
        case rel =>
          refine ⟨k + 1, by omega, by go_num, HK.out.1, HK.out.2.1, ?_⟩
          rw [HSU.out, duesV_none _ _ _ (by have := HX.out; omega)]
          exact HK.out.2.2
        case measure => simp [intOf]; omega
    · have hkl : k = rows.length := by omega
      subst hkl
      rw [List.take_length] at hk1
      obtain ⟨y0, y1, y2, hys⟩ := three_of (duesV_len l.rate rows)
      rw [hys] at hk1
      have hk1' : wr.heap[w.heap.size + 1]? = some (.cells #[iv y0, iv y1, iv y2] 107 (0, 0)) := hk1
      obtain ⟨c1, f1, l1⟩ := cells_of_block hk1'
      have HYS := Lib.hid hys
      have HB' := Lib.hid hB
      have hkF : (((wr.setCell ⟨w.heap.size + 1, 0, none⟩ (iv y0)).setCell ⟨w.heap.size + 1, 1, none⟩ (iv y1)).setCell ⟨w.heap.size + 1, 2, none⟩ (iv y2)).heap[w.heap.size + 1]? = some (.cells #[iv y0, iv y1, iv y2] 107 (0, 0)) := set_block (set_block (set_block hk1' _) _) _
      obtain ⟨cF, fF, lF⟩ := cells_of_block hkF
      clear hk0 hk1 hk1' hB hys hkF
      go_wp2_with fail
      (try rw [Exit.noGoto_ret])
      refine bodyPost_ret (v := .agg #[iv y0, iv y1, iv y2]) (by simp [results, Try.results56, go_sem, cF]) rfl ?_
      exact ⟨by rw [HYS.out]; rfl, bgoSet (bgoSet (bgoSet HB'.out (by simp) _) (by simp) _) (by simp) _, by simp [World.setCell]; omega⟩

/-! ### The iterator of the field's truths: the same list again and again -/
theorem proveTruth_all {f : FieldD} (hf : faultF f = 0) {x : List Int} (hx : x ∈ allF f) : proveTruthB f x = rightF f [] x := by
  have hS := soundF_of hf
  have h0 := hS.rows0
  obtain ⟨h1, h2⟩ := mem_allF.1 hx
  have hall : x.all (saysB f) = true := by
    rw [List.all_eq_true]
    intro n hn
    obtain ⟨i, hi, rfl⟩ := List.getElem_of_mem hn
    have := h2 i (by omega)
    rw [show x.getD i 0 = x[i] from by simp [List.getD, hi]] at this
    simp only [saysB, inB, Bool.or_eq_true, beq_iff_eq, Bool.and_eq_true, decide_eq_true_eq]
    omega
  unfold proveTruthB
  rw [hf, hall, decide_eq_true (show (x.length : Int) = f.rows by omega)]
  simp

/-- What choose works with. -/
structure ChR (W : World) (n bl bo by_ bc ob l : Nat) (o : List Int) : Prop where
  y : W.heap[by_]? = some (.cells #[.func (.yield l) #[] #[]] 87 (0, 0))
  out : W.heap[bo]? = some (.cells #[.slice (some ⟨ob, 0, none⟩) n n] 42 (0, 0))
  ch : W.heap[bc]? = some (.cells #[.func (.func 120) #[] #[.pointer (some ⟨bo, 0, none⟩), .pointer (some ⟨bl, 0, none⟩), .pointer (some ⟨by_, 0, none⟩), .pointer (some ⟨bc, 0, none⟩)]] 98 (0, 0))
  cells : W.heap[ob]? = some (.cells (intCells o).toArray 3 (0, 0))

theorem ChR.kept {W W' : World} {n bl bo by_ bc ob l : Nat} {o : List Int} (h : ChR W n bl bo by_ bc ob l o) (hk : ∀ m ∈ [ob, by_, bo, bc], m < W.heap.size → W'.heap[m]? = W.heap[m]?) : ChR W' n bl bo by_ bc ob l o :=
  ⟨(hk _ (by simp) (Array.getElem?_eq_some_iff.1 h.y).1).trans h.y, (hk _ (by simp) (Array.getElem?_eq_some_iff.1 h.out).1).trans h.out, (hk _ (by simp) (Array.getElem?_eq_some_iff.1 h.ch).1).trans h.ch, (hk _ (by simp) (Array.getElem?_eq_some_iff.1 h.cells).1).trans h.cells⟩
theorem ChR.below {W W' : World} {n bl bo by_ bc ob l : Nat} {o : List Int} (h : ChR W n bl bo by_ bc ob l o) (hb : Below W.heap.size W W') : ChR W' n bl bo by_ bc ob l o := h.kept fun m _ hm => hb.block m hm
theorem ChR.set {W : World} {n bl bo by_ bc ob l : Nat} {o : List Int} (h : ChR W n bl bo by_ bc ob l o) (hd1 : by_ ≠ ob) (hd2 : bo ≠ ob) (hd3 : bc ≠ ob) (i : Nat) (x : Int) : ChR (W.setCell ⟨ob, i, none⟩ (iv x)) n bl bo by_ bc ob l (o.set i x) :=
  ⟨(Below.heap_setCell _ _ _ _ hd1).trans h.y, (Below.heap_setCell _ _ _ _ hd2).trans h.out, (Below.heap_setCell _ _ _ _ hd3).trans h.ch, by rw [← set_ints]; exact set_block h.cells _⟩

/-- A list is handed over as the slice of block ob. -/
def RowE (Ms : List Nat) (x : List Int) (v : Value) (W : World) : Prop :=
  ∃ ob : Nat, v = .slice (some ⟨ob, 0, none⟩) x.length x.length ∧ W.heap[ob]? = some (.cells (intCells x).toArray 3 (0, 0)) ∧ ob ∈ Ms

/-- The ledger lies in its box. -/
structure RoInv (bl : Nat) (l : LedgerD) (tv nv : Value) (W : World) : Prop where
  lb : W.heap[bl]? = some (.cells (lcells l tv nv) 41 (0, 0))
  tal : TalliesAt W tv l.field.tallies

set_option maxHeartbeats 1600000 in
theorem rchoose_any (l : LedgerD) (hf : faultF l.field = 0) (tv nv : Value) (bl bo by_ bc ob y : Nat) (hd1 : by_ ≠ ob) (hd2 : bo ≠ ob) (hd3 : bc ≠ ob) (J : List Nat → Option Nat → World → Prop)
    (hInv : ∀ Ms s W1, J Ms s W1 → RoInv bl l tv nv W1)
    (hstep : ∀ Ms Ms' s W1 W2, J Ms s W1 → Ext Ms W1 W2 → (∀ m ∈ Ms', m ∈ Ms ∨ (W1.heap.size ≤ m ∧ m < W2.heap.size)) → True → J Ms' s W2)
    (hY : ∀ Ms k v W1 (hk : k < (truthsF l.field []).length), J Ms (some k) W1 → RowE Ms (truthsF l.field [])[k] v W1 → YieldAt Fence.wide 0 Try.prog y #[v] W1 fun e W' =>
       ((∀ m ∈ Ms, m ∉ [] → m < W1.heap.size → W'.heap[m]? = W1.heap[m]?) ∧ W1.heap.size ≤ W'.heap.size) ∧ ((e = .returned (.bool true) ∧ J Ms (some (k + 1)) W') ∨ (e = .returned (.bool false) ∧ J Ms none W'))) :
    ∀ (m i k : Nat) (pre : List Int) (W : World) (o : List Int), i + m = l.field.rows.toNat → pre.length = i → o.length = l.field.rows.toNat → o.take i = pre → AtFrom (rangesF l.field) i k pre → ChR W l.field.rows.toNat bl bo by_ bc ob y o → J [ob, by_, bo, bc] (some (cntF l.field [] k)) W →
      CallsIn Fence.wide 0 Try.prog 120 #[iv i, .pointer (some ⟨bo, 0, none⟩), .pointer (some ⟨bl, 0, none⟩), .pointer (some ⟨by_, 0, none⟩), .pointer (some ⟨bc, 0, none⟩)] W
        (fun e W' => (e = .returned (.bool true) ∧ J [ob, by_, bo, bc] (some (cntF l.field [] (k + (prodL ((rangesF l.field).drop i)).length))) W' ∧ ∃ o', o'.length = l.field.rows.toNat ∧ o'.take i = pre ∧ ChR W' l.field.rows.toNat bl bo by_ bc ob y o') ∨
          (e = .returned (.bool false) ∧ J [ob, by_, bo, bc] none W')) := by
  have hS := soundF_of hf
  have hRl : (rangesF l.field).length = l.field.rows.toNat := by simp [rangesF]
  intro m
  induction m with
  | zero =>
    intro i k pre W o him hpl hol hot hat hst hJ
    have hrow : (i : Int) = (l.field.rows.toNat : Int) := by omega
    obtain ⟨hone, hk, hx⟩ := hat.last (by omega)
    rw [hone]
    obtain rfl : o = pre := by rw [← hot, show i = o.length by omega, List.take_length]
    have hk' : k < (allF l.field).length := hk
    have hxx : (allF l.field)[k] = o := hx
    obtain ⟨hbl, htl⟩ := hInv _ _ _ hJ
    have hrt := wProveTruth_any l.field tv (.slice (some ⟨ob, 0, none⟩) l.field.rows.toNat l.field.rows.toNat) o W htl (by rw [← hol]; exact SlAt.of_block (cs := (intCells o).toArray) 1 o.length hst.cells (by simp [intCells]) (by have := hS.rows1; simp only [maxLen]; omega))
    rw [proveTruth_all hf (hxx ▸ List.getElem_mem hk')] at hrt
    obtain ⟨cc1, cf1, cl1⟩ := cells_of_block hbl
    obtain ⟨cc2, cf2, cl2⟩ := cells_of_block hst.out
    obtain ⟨cc3, cf3, cl3⟩ := cells_of_block hst.y
    have HR := Lib.hid hrt
    have HS := Lib.hid hst
    have HJ := Lib.hid hJ
    have HST := Lib.hid hstep
    have HY := Lib.hid hY
    have HK := Lib.hid (show ∃ h : k < (allF l.field).length, (allF l.field)[k] = o from ⟨hk', hxx⟩)
    have HO := Lib.hid (And.intro hol hot)
    have hr7 := hS.rows1
    have heq : ((i : Int) == (l.field.rows.toNat : Int)) = true := by simpa using hrow
    clear hrt hInv hstep hY hst hJ hbl htl hat hxx hx hk hk' hone hrow hot hS
    obtain ⟨q, hq⟩ : ∃ q, rightF l.field [] o = q := ⟨_, rfl⟩
    have HQ := Lib.hid hq
    rw [hq] at HR
    clear hq
    have hol' : o.length = l.field.rows.toNat := HO.out.1
    obtain ⟨rn, hrn⟩ : ∃ rn, l.field.rows.toNat = rn := ⟨_, rfl⟩
    rw [hrn] at HR heq cc2 hol' ⊢
    have HRN := Lib.hid hrn
    clear hrn him
    cases q
    · skip
      refine callsIn_of_wp Try.func120 rfl trivial ?_
      simp only [Try.ntmps120, List.size_toArray, List.length_cons, List.length_nil, Nat.reduceAdd, Nat.reduceSub, Array.replicate_succ, Array.replicate_zero, List.push_toArray, List.append_toArray, List.nil_append, List.cons_append]
      gi_wp2_with fail
      refine (callsIn_wide.2 HR.out).mono ?_
      rintro e W1 ⟨rfl, hb1⟩
      have HB1 := Lib.hid hb1
      clear hb1
      gi_wp2_with fail
      go_returns
      have hJ1 := HST.out _ _ _ _ _ HJ.out (Ext.of_below HB1.out) (fun m hm => .inl hm) trivial
      obtain ⟨hk', hxx⟩ := HK.out
      rw [← cntF_no hk' (by rw [hxx]; exact HQ.out)] at hJ1
      exact .inl ⟨by simp, hJ1, o, hol', HO.out.2, HRN.out ▸ HS.out.below HB1.out⟩
    · skip
      refine callsIn_of_wp Try.func120 rfl trivial ?_
      simp only [Try.ntmps120, List.size_toArray, List.length_cons, List.length_nil, Nat.reduceAdd, Nat.reduceSub, Array.replicate_succ, Array.replicate_zero, List.push_toArray, List.append_toArray, List.nil_append, List.cons_append]
      gi_wp2_with fail
      refine (callsIn_wide.2 HR.out).mono ?_
      rintro e W1 ⟨rfl, hb1⟩
      obtain ⟨hc1, hf1⟩ := bcell hb1
      have hs1 := hb1.size
      have HB1 := Lib.hid hb1
      have hJ1 := HST.out _ _ _ _ _ HJ.out (Ext.of_below hb1) (fun m hm => .inl hm) trivial
      obtain ⟨hk', hxx⟩ := HK.out
      obtain ⟨hc, hx⟩ := truthsF_at hk' (by rw [hxx]; exact HQ.out)
      obtain ⟨g1, t1, a1, b1, hy1, hR1⟩ := HY.out _ _ (.slice (some ⟨ob, 0, none⟩) rn rn) W1 hc hJ1 (by
        rw [hx, hxx]
        exact ⟨ob, by rw [hol'], (HS.out.below HB1.out).cells, by simp⟩)
      have hcn : cntF l.field [] (k + 1) = cntF l.field [] k + 1 := cntF_yes hk' (by rw [hxx]; exact HQ.out)
      have HR1 := Lib.hid hR1
      have HCN := Lib.hid hcn
      clear hR1 hJ1 hk' hxx hc hx hcn hb1
      gi_wp2_with fail
      refine HR1.out.mono ?_
      rintro e W' ⟨⟨hkeep, hsz⟩, ⟨rfl, hJ⟩ | ⟨rfl, hJ⟩⟩
      · have HJ' := Lib.hid hJ
        have HK' := Lib.hid hkeep
        clear hJ hkeep
        gi_wp2_with fail
        go_returns
        exact .inl ⟨by simp, by rw [HCN.out]; exact HJ'.out, o, hol', HO.out.2, HRN.out ▸ (HS.out.below HB1.out).kept (fun m hm hml => HK'.out m hm (by simp) hml)⟩
      · have HJ' := Lib.hid hJ
        clear hJ hkeep
        gi_wp2_with fail
        go_returns
        exact .inr ⟨by simp, HJ'.out⟩
  | succ m ih =>
    intro i k pre W o him hpl hol hot hat hst hJ
    have hi : i < (rangesF l.field).length := by omega
    have hcount := AtFrom.count hi
    have hw0 := hS.weed0
    have hw1 := hS.weed1
    have hr7 := hS.rows1
    have hr0 := hS.rows0
    have hri : (rangesF l.field)[i] = (-1, l.field.weeders - 1) := by simp [rangesF]
    obtain ⟨z, hz, hz4⟩ : ∃ z : Nat, (z : Int) = l.field.weeders + 1 ∧ z ≤ 4 := ⟨(l.field.weeders + 1).toNat, by omega, by omega⟩
    have hsz : (sizeR (rangesF l.field)[i]).toNat = z := by rw [hri]; unfold sizeR; simp only; omega
    rw [hsz] at hcount
    obtain ⟨hbl, htl⟩ := hInv _ _ _ hJ
    obtain ⟨cc1, cf1, cl1⟩ := cells_of_block hbl
    obtain ⟨cc2, cf2, cl2⟩ := cells_of_block hst.out
    have hne : (i : Int) ≠ (l.field.rows.toNat : Int) := by omega
    have hneb : ((i : Int) == (l.field.rows.toNat : Int)) = false := by simpa using hne
    have HNX : Hid (∀ c : Nat, c < z → AtFrom (rangesF l.field) (i + 1) (k + c * (prodL ((rangesF l.field).drop (i + 1))).length) (pre ++ [(c : Int) - 1])) := Lib.hid (fun c hc => by
      have := hat.next hi c (by rw [hsz]; exact hc)
      rw [hri] at this
      rw [show (c : Int) - 1 = -1 + (c : Int) from by omega]
      exact this)
    have HI := Lib.hid hInv
    have HST := Lib.hid hstep
    have HS := Lib.hid hst
    have HJ := Lib.hid hJ
    have HIH := Lib.hid ih
    have HOL := Lib.hid (And.intro hol hot)
    have HCZ := Lib.hid hcount
    have HZ := Lib.hid hz
    have hi7 : i < 7 := by omega
    have hiR : i < l.field.rows.toNat := by omega
    have hR7 : l.field.rows.toNat ≤ 7 := by omega
    clear hInv hstep hY hat hst hJ ih hcount hne hbl htl hri hsz hi hol hot hRl hz hS
    obtain ⟨rn, hrn⟩ : ∃ rn, l.field.rows.toNat = rn := ⟨_, rfl⟩
    rw [hrn] at HS HIH HOL hiR hR7 him hneb cc2 ⊢
    clear hrn
    refine callsIn_of_wp Try.func120 rfl trivial ?_
    simp only [Try.ntmps120, List.size_toArray, List.length_cons, List.length_nil, Nat.reduceAdd, Nat.reduceSub, Array.replicate_succ, Array.replicate_zero, List.push_toArray, List.append_toArray, List.nil_append, List.cons_append]
    gi_wp2_with fail
    rw [← HZ.out]
    gi_loopw [26] (fun u wr => ∃ c : Nat, c ≤ z ∧ u = .int .i64 c ∧ ∃ o' : List Int, o'.length = rn ∧ o'.take i = pre ∧ ChR wr rn bl bo by_ bc ob y o' ∧ J [ob, by_, bo, bc] (some (cntF l.field [] (k + c * (prodL ((rangesF l.field).drop (i + 1))).length))) wr)
      (fun u _ => z - (intOf u).toNat)
    case atStart => exact ⟨0, Nat.zero_le _, rfl, o, HOL.out.1, HOL.out.2, HS.out, by simpa using HJ.out⟩
    case round =>
      obtain ⟨c, hcz, rfl, o', ho1, ho2, hst, hJ⟩ := hrel
      by_cases hlt : c < z
      · obtain ⟨cd1, cfd1, cld1⟩ := cells_of_block hst.out
        obtain ⟨cd3, cfd3, cld3⟩ := cells_of_block hst.ch
        obtain ⟨yv, hcell⟩ : ∃ yv, wr.cell? ⟨ob, i, none⟩ = some (iv yv) := ⟨_, cell_of_ints hst.cells (show i < o'.length by omega)⟩
        have hab := World.block_lt_of_cell? wr _ hcell
        have hfr := frozen_of_block hst.cells i
        have HSt := Lib.hid hst
        have HJt := Lib.hid hJ
        have HO := Lib.hid (And.intro ho1 ho2)
        have hltI : (c : Int) < z := by omega
        clear hst hJ ho1 ho2 cc1 cf1 cl1 cc2 cf2 cl2
        have hstS := HSt.out.set hd1 hd2 hd3 i ((c : Int) - 1)
        have hJS : J [ob, by_, bo, bc] (some (cntF l.field [] (k + c * (prodL ((rangesF l.field).drop (i + 1))).length))) (wr.setCell ⟨ob, i, none⟩ (iv ((c : Int) - 1))) :=
          HST.out _ _ _ _ _ HJt.out ((ext_set wr ⟨ob, i, none⟩ _).more (fun x hx => by simp at hx; subst hx; simp)) (fun m hm => .inl hm) trivial
        have hcall := HIH.out (i + 1) _ (pre ++ [(c : Int) - 1]) _ (o'.set i ((c : Int) - 1)) (by omega) (by simp [hpl]) (by simp [HO.out.1]) (by
          rw [List.take_set]
          rw [List.take_add_one, HO.out.2]
          have hio : i < o'.length := by have := HO.out.1; omega
          rw [List.getElem?_eq_getElem hio]
          simp [List.set_append_right, hpl]) (HNX.out c hlt) hstS hJS
        rw [show ((i + 1 : Nat) : Int) = (i : Int) + 1 from by omega] at hcall
        have HCALL := Lib.hid hcall
        clear hcall hstS hJS
        gi_wp2_with fail
        refine HCALL.out.mono ?_
        rintro e W2 (⟨rfl, hJ2, o2, ho1, ho2, hst2⟩ | ⟨rfl, hJ2⟩)
        · have HJ2 := Lib.hid hJ2
          have HST2 := Lib.hid hst2
          have HO2 := Lib.hid (And.intro ho1 ho2)
          clear hJ2 hst2 ho1 ho2 cd1 cfd1 cld1 cd3 cfd3 cld3 hcell hab hfr
          gi_wp2_with fail
          go_roundw
          case rel =>
            refine ⟨c + 1, by omega, by go_num, o2, HO2.out.1, ?_, HST2.out, ?_⟩
            · have := congrArg (List.take i) HO2.out.2
              rw [List.take_take, Nat.min_eq_left (by omega)] at this
              rw [this, List.take_append_of_le_length (by omega), List.take_of_length_le (by omega)]
            · rw [Nat.add_mul, Nat.one_mul, ← Nat.add_assoc]; exact HJ2.out
          case measure => simp [intOf]; omega
        · have HJ2 := Lib.hid hJ2
          clear hJ2 cd1 cfd1 cld1 cd3 cfd3 cld3 hcell hab hfr
          gi_wp2_with fail
          go_returns
          exact .inr ⟨by simp, HJ2.out⟩
      · have hcz' : c = z := by omega
        subst hcz'
        have HJt := Lib.hid hJ
        have HSt := Lib.hid hst
        have HO := Lib.hid (And.intro ho1 ho2)
        clear hJ hst ho1 ho2 cc1 cf1 cl1 cc2 cf2 cl2
        gi_wp2_with fail
        go_returns
        refine .inl ⟨by simp, ?_, o', HO.out.1, HO.out.2, HSt.out⟩
        rw [HCZ.out]; exact HJt.out

theorem rows_seq (l : LedgerD) (hf : faultF l.field = 0) (tv nv : Value) (bl : Nat) :
    SeqC Try.prog 119 #[.pointer (some ⟨bl, 0, none⟩)] (truthsF l.field []) RowE [] (fun _ => True) (RoInv bl l tv nv) := by
  intro y J W hInv hstep hY h0
  obtain ⟨hbl, htl⟩ := hInv _ _ _ h0
  have hch := fun bo by_ bc ob hd1 hd2 hd3 => rchoose_any l hf tv nv bl bo by_ bc ob y hd1 hd2 hd3 J hInv hstep hY
  have hS := soundF_of hf
  have hr7 := hS.rows1
  have hr0 := hS.rows0
  obtain ⟨cc1, cf1, cl1⟩ := cells_of_block hbl
  obtain ⟨rn, hrn⟩ : ∃ rn : Nat, l.field.rows = rn := ⟨l.field.rows.toNat, by omega⟩
  have hrt : l.field.rows.toNat = rn := by omega
  have HCH := Lib.hid hch
  have HST := Lib.hid hstep
  have HJ := Lib.hid h0
  have HRN := Lib.hid (And.intro hrn hrt)
  have hmk := make_ints rn (by omega)
  have hn3 : ∀ (A B C : Obj) (v : Value) (t : TypeId), ((((W.alloc A).alloc B).alloc C).alloc (.cells #[v] t)).cell? ⟨W.heap.size + 1 + 1 + 1, 0, none⟩ = some v := fun A B C v t => cell_of_block0 (heap_new3 W A B C _)
  have hf3 : ∀ (A B C : Obj) (v : Value) (t : TypeId), ((((W.alloc A).alloc B).alloc C).alloc (.cells #[v] t)).frozen? ⟨W.heap.size + 1 + 1 + 1, 0, none⟩ = false := fun A B C v t => frozen_of_block (heap_new3 W A B C _) 0
  have hl4 : lcells l tv nv = #[iv (rn : Int), iv l.field.weeders, iv l.field.left.1, iv l.field.left.2, tv, iv l.rate, iv l.box.1, iv l.box.2, nv] := by unfold lcells; rw [hrn]
  rw [hl4] at cc1
  clear hInv hstep hY hch h0 hS hbl htl hrn hrt hl4
  go_enter Try.func119, Try.ntmps119
  go_wp2_with fail
  refine (callsIn_wide.1 (HCH.out (W.heap.size + 1 + 1) W.heap.size (W.heap.size + 1 + 1 + 1) (W.heap.size + 1) (by omega) (by omega) (by omega) l.field.rows.toNat 0 0 [] _ (List.replicate rn 0) (by omega) rfl (by simp [HRN.out.2]) (by simp) (AtFrom.zero _) ⟨?_, ?_, ?_, ?_⟩
    (HST.out _ _ _ _ _ HJ.out (Ext.of_below (by repeat (first | exact Below.refl _ _ | assumption | refine bgo ?_ (by assumption) | refine bgoAlloc ?_ _ | refine bgoDrew ?_ | refine bgoSet ?_ (by simp; omega) _))) (fun m hm => .inr (by simp at hm; (first | omega | (simp; omega)))) trivial))).mono ?_
  · exact ((Below.heap_alloc _ _ _ (by simp; omega)).trans ((Below.heap_alloc _ _ _ (by simp; omega)).trans ((Below.heap_alloc _ _ _ (by simp)).trans (heap_new0 _ _))))
  · rw [HRN.out.2]; exact ((Below.heap_alloc _ _ _ (by simp)).trans (heap_new2 _ _ _ _))
  · exact heap_new3 _ _ _ _ _
  · exact ((Below.heap_alloc _ _ _ (by simp)).trans ((Below.heap_alloc _ _ _ (by simp)).trans (heap_new1 _ _ _)))
  · rintro e W2 (⟨rfl, hJ2, _⟩ | ⟨rfl, hJ2⟩)
    · have HJ2 := Lib.hid hJ2
      clear hJ2 hn3 hf3 hmk
      go_wp2_with fail
      go_end0
      refine ⟨⟨_, rfl⟩, [W.heap.size + 1, W.heap.size, W.heap.size + 1 + 1, W.heap.size + 1 + 1 + 1], .inl ?_⟩
      have := HJ2.out
      rw [← cntF_all]
      simpa [allF] using this
    · have HJ2 := Lib.hid hJ2
      clear hJ2 hn3 hf3 hmk
      go_wp2_with fail
      go_end0
      exact ⟨⟨_, rfl⟩, _, .inr HJ2.out⟩

/-- rows RETURNS ITS ITERATOR: the ledger is boxed. -/
theorem rows_any (l : LedgerD) (tv nv : Value) (w : World) :
    Calls Try.prog 113 #[lv l tv nv] w (fun e w' => e = .returned (.func (.func 119) #[] #[.pointer (some ⟨w.heap.size, 0, none⟩)]) ∧ w' = w.alloc (.cells (lcells l tv nv) 41)) := by
  go_enter Try.func113, Try.ntmps113
  go_wp2
  go_returns
  exact ⟨by simp, rfl⟩

end Go.Proofs.Ytdjgikcnmokjkaa

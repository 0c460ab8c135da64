/-
  Contracts of package weed, fifth part: the iterator of truths.
-/
import Derived.WalkKit
import Derived.WalkLawsBesides
import Derived.WalkSpells
import Derived.Outline
import Derived.Handy
import Derived.KernelRfl
import Derived.Lib.Hide
import Derived.Test.YtdjgikcnmokjkaaPD
namespace Go.Proofs.Ytdjgikcnmokjkaa
open Go.RowKit Go.RG Go.SL Go.Shelf Cou Go.TB
set_option maxHeartbeats 400000
set_option maxRecDepth 10000
attribute [local go_sem] Oper.semAt_some

/-- How many of the first k lists are truths. -/
def cntF (f : FieldD) (out : List Int) (k : Nat) : Nat := (((allF f).take k).filter (rightF f out)).length
theorem cntF_zero (f : FieldD) (out : List Int) : cntF f out 0 = 0 := rfl
theorem cntF_all (f : FieldD) (out : List Int) : cntF f out (allF f).length = (truthsF f out).length := by
  unfold cntF truthsF
  rw [List.take_length]
theorem cntF_no {f : FieldD} {out : List Int} {k : Nat} (hk : k < (allF f).length) (hp : rightF f out (allF f)[k] = false) : cntF f out (k + 1) = cntF f out k := by
  unfold cntF
  rw [List.take_succ_eq_append_getElem hk, List.filter_append, List.length_append]
  simp [hp]
theorem cntF_yes {f : FieldD} {out : List Int} {k : Nat} (hk : k < (allF f).length) (hp : rightF f out (allF f)[k] = true) : cntF f out (k + 1) = cntF f out k + 1 := by
  unfold cntF
  rw [List.take_succ_eq_append_getElem hk, List.filter_append, List.length_append]
  simp [hp]
theorem truthsF_at {f : FieldD} {out : List Int} {k : Nat} (hk : k < (allF f).length) (hp : rightF f out (allF f)[k] = true) :
    ∃ hc : cntF f out k < (truthsF f out).length, (truthsF f out)[cntF f out k] = (allF f)[k] := by
  have := filter_at (rightF f out) id (allF f) k hk hp
  rw [List.map_id] at this
  obtain ⟨hc, hx⟩ := List.getElem?_eq_some_iff.1 this
  exact ⟨hc, hx⟩

def pad7 (x : List Int) : List Int := x ++ List.replicate (7 - x.length) 0
theorem pad7_len {x : List Int} (h : x.length ≤ 7) : (pad7 x).length = 7 := by simp [pad7]; omega
theorem pad7_get (x : List Int) (i : Nat) : (pad7 x).getD i 0 = x.getD i 0 := by
  unfold pad7
  by_cases h : i < x.length
  · rw [List.getD_eq_getElem?_getD, List.getElem?_append_left h, ← List.getD_eq_getElem?_getD]
  · rw [List.getD_eq_getElem?_getD, List.getElem?_append_right (by omega), List.getElem?_replicate]
    have : x.getD i 0 = 0 := by rw [List.getD_eq_getElem?_getD, List.getElem?_eq_none (by omega)]; rfl
    rw [this]
    split <;> rfl
theorem didL_pad (x : List Int) (who : Int) (a n : Nat) : didL (pad7 x) who a n = didL x who a n := by
  unfold didL
  simp only [pad7_get]
theorem right_pad (f : FieldD) (out x : List Int) : rightF f out (pad7 x) = rightF f out x := by
  unfold rightF tallyR didT
  simp only [didL_pad]
theorem done_pad (f : FieldD) (x : List Int) (who : Int) : doneF f (pad7 x) who = doneF f x who := by
  unfold doneF didT
  rw [didL_pad]

/-- What choose works with. -/
structure ChW (W : World) (bf bo by_ ab bc l : Nat) (o : List Int) : Prop where
  y : W.heap[by_]? = some (.cells #[.func (.yield l) #[] #[]] 156 (0, 0))
  ch : W.heap[bc]? = some (.cells #[.func (.func 106) #[] #[.pointer (some ⟨bf, 0, none⟩), .pointer (some ⟨ab, 0, none⟩), .pointer (some ⟨bo, 0, none⟩), .pointer (some ⟨by_, 0, none⟩), .pointer (some ⟨bc, 0, none⟩)]] 98 (0, 0))
  cells : W.heap[ab]? = some (.cells (intCells o).toArray 96 (0, 0))

theorem ChW.kept {W W' : World} {bf bo by_ ab bc l : Nat} {o : List Int} (h : ChW W bf bo by_ ab bc l o) (hk : ∀ m ∈ [ab, by_, bc], m < W.heap.size → W'.heap[m]? = W.heap[m]?) : ChW W' bf bo by_ ab bc l o :=
  ⟨(hk _ (by simp) (Array.getElem?_eq_some_iff.1 h.y).1).trans h.y, (hk _ (by simp) (Array.getElem?_eq_some_iff.1 h.ch).1).trans h.ch, (hk _ (by simp) (Array.getElem?_eq_some_iff.1 h.cells).1).trans h.cells⟩
theorem ChW.below {W W' : World} {bf bo by_ ab bc l : Nat} {o : List Int} (h : ChW W bf bo by_ ab bc l o) (hb : Below W.heap.size W W') : ChW W' bf bo by_ ab bc l o :=
  h.kept fun m _ hm => hb.block m hm
theorem ChW.set {W : World} {bf bo by_ ab bc l : Nat} {o : List Int} (h : ChW W bf bo by_ ab bc l o) (hd1 : by_ ≠ ab) (hd3 : bc ≠ ab) (i : Nat) (x : Int) : ChW (W.setCell ⟨ab, i, none⟩ (iv x)) bf bo by_ ab bc l (o.set i x) :=
  ⟨(Below.heap_setCell _ _ _ _ hd1).trans h.y, (Below.heap_setCell _ _ _ _ hd3).trans h.ch, by rw [← set_ints]; exact set_block h.cells _⟩

/-- A list is handed over by value. -/
def AnsE (_ : List Nat) (x : List Int) (v : Value) (_ : World) : Prop := v = aggI (pad7 x)

/-- The field and the tallies left out lie in their boxes. -/
structure TfInv (bf bo : Nat) (f : FieldD) (tv ov : Value) (out : List Int) (W : World) : Prop where
  fb : W.heap[bf]? = some (.cells (fcells f tv) 36 (0, 0))
  ob : W.heap[bo]? = some (.cells #[ov] 42 (0, 0))
  tal : TalliesAt W tv f.tallies
  out : IntsAt W ov out

set_option maxHeartbeats 1600000 in
theorem wchoose_any (f : FieldD) (hS : SoundF f) (tv ov : Value) (out : List Int) (bf bo by_ ab bc l : Nat) (hd1 : by_ ≠ ab) (hd3 : bc ≠ ab) (J : List Nat → Option Nat → World → Prop)
    (hInv : ∀ Ms s W1, J Ms s W1 → TfInv bf bo f tv ov out W1)
    (hstep : ∀ Ms Ms' s W1 W2, J Ms s W1 → Ext Ms W1 W2 → (∀ m ∈ Ms', m ∈ Ms ∨ (W1.heap.size ≤ m ∧ m < W2.heap.size)) → True → J Ms' s W2)
    (hY : ∀ Ms k v W1 (hk : k < (truthsF f out).length), J Ms (some k) W1 → AnsE Ms (truthsF f out)[k] v W1 → YieldAt Fence.wide 0 Try.prog l #[v] W1 fun e W' =>
       ((∀ m ∈ Ms, m ∉ [] → m < W1.heap.size → W'.heap[m]? = W1.heap[m]?) ∧ W1.heap.size ≤ W'.heap.size) ∧ ((e = .returned (.bool true) ∧ J Ms (some (k + 1)) W') ∨ (e = .returned (.bool false) ∧ J Ms none W'))) :
    ∀ (m i k : Nat) (pre : List Int) (W : World) (o : List Int), i + m = f.rows.toNat → pre.length = i → o.length = 7 → o.take i = pre → o.drop f.rows.toNat = List.replicate (7 - f.rows.toNat) 0 → AtFrom (rangesF f) i k pre → ChW W bf bo by_ ab bc l o → J [ab, by_, bc] (some (cntF f out k)) W →
      CallsIn Fence.wide 0 Try.prog 106 #[iv i, .pointer (some ⟨bf, 0, none⟩), .pointer (some ⟨ab, 0, none⟩), .pointer (some ⟨bo, 0, none⟩), .pointer (some ⟨by_, 0, none⟩), .pointer (some ⟨bc, 0, none⟩)] W
        (fun e W' => (e = .returned (.bool true) ∧ J [ab, by_, bc] (some (cntF f out (k + (prodL ((rangesF f).drop i)).length))) W' ∧ ∃ o', o'.length = 7 ∧ o'.take i = pre ∧ o'.drop f.rows.toNat = List.replicate (7 - f.rows.toNat) 0 ∧ ChW W' bf bo by_ ab bc l o') ∨
          (e = .returned (.bool false) ∧ J [ab, by_, bc] none W')) := by
  have hRl : (rangesF f).length = f.rows.toNat := by simp [rangesF]
  intro m
  induction m with
  | zero =>
    intro i k pre W o him hpl hol hot hod hat hst hJ
    have hrow : (i : Int) = f.rows := by have := hS.rows0; omega
    obtain ⟨hone, hk, hx⟩ := hat.last (by omega)
    rw [hone]
    have hop : o = pad7 pre := by
      rw [← List.take_append_drop f.rows.toNat o, hod]
      rw [show f.rows.toNat = i from by omega, hot]
      unfold pad7
      rw [hpl]
    have hk' : k < (allF f).length := hk
    have hxx : (allF f)[k] = pre := hx
    obtain ⟨hbf, hbo, htl, hov⟩ := hInv _ _ _ hJ
    obtain ⟨ot, ct, rfl⟩ := htl.open
    obtain ⟨oo, oc, rfl⟩ := hov.open
    have hright := right_any f hS ot ct o hol _ out W htl hov
    rw [show rightF f out o = rightF f out pre from by rw [hop, right_pad]] at hright
    obtain ⟨cc1, cf1, cl1⟩ := cells_of_block hbf
    obtain ⟨cc2, cf2, cl2⟩ := cells_of_block hbo
    obtain ⟨cc3, cf3, cl3⟩ := cells_of_block hst.y
    obtain ⟨x0, x1, x2, x3, x4, x5, x6, hxs⟩ := seven_of hol
    have hag : aggI o = .agg #[iv x0, iv x1, iv x2, iv x3, iv x4, iv x5, iv x6] := by rw [hxs]; rfl
    have hcb := hst.cells
    rw [show (intCells o).toArray = #[iv x0, iv x1, iv x2, iv x3, iv x4, iv x5, iv x6] from by rw [hxs]; rfl] at hcb
    obtain ⟨cc4, cf4, cl4⟩ := cells_of_block hcb
    rw [hag] at hright
    have HR := Lib.hid hright
    have HS := Lib.hid hst
    have HJ := Lib.hid hJ
    have HI := Lib.hid hInv
    have HST := Lib.hid hstep
    have HY := Lib.hid hY
    have HK := Lib.hid (show ∃ h : k < (allF f).length, (allF f)[k] = pre from ⟨hk', hxx⟩)
    have HO := Lib.hid (And.intro hol (And.intro hot (And.intro hod (And.intro hop hag))))
    have heq : ((i : Int) == f.rows) = true := by simpa using hrow
    clear hright hInv hstep hY hst hJ hbf hbo htl hov hat hcb hop hag hxs hx hxx hk hk' hone hrow hot hod
    obtain ⟨q, hq⟩ : ∃ q, rightF f out pre = q := ⟨_, rfl⟩
    have HQ := Lib.hid hq
    rw [hq] at HR
    clear hq
    cases q
    · skip
      refine callsIn_of_wp Try.func106 rfl trivial ?_
      simp only [Try.ntmps106, List.size_toArray, List.length_cons, List.length_nil, Nat.reduceAdd, Nat.reduceSub, Array.replicate_succ, Array.replicate_zero, List.push_toArray, List.append_toArray, List.nil_append, List.cons_append]
      gi_wp2_with fail
      refine (callsIn_wide.2 HR.out).mono ?_
      rintro e W1 ⟨rfl, hb1⟩
      have HB1 := Lib.hid hb1
      clear hb1
      gi_wp2_with fail
      go_returns
      have hJ1 := HST.out _ _ _ _ _ HJ.out (Ext.of_below HB1.out) (fun m hm => .inl hm) trivial
      obtain ⟨hk', hxx⟩ := HK.out
      rw [← cntF_no hk' (by rw [hxx]; exact HQ.out)] at hJ1
      exact .inl ⟨by simp, hJ1, o, HO.out.1, HO.out.2.1, HO.out.2.2.1, HS.out.below HB1.out⟩
    · skip
      refine callsIn_of_wp Try.func106 rfl trivial ?_
      simp only [Try.ntmps106, List.size_toArray, List.length_cons, List.length_nil, Nat.reduceAdd, Nat.reduceSub, Array.replicate_succ, Array.replicate_zero, List.push_toArray, List.append_toArray, List.nil_append, List.cons_append]
      gi_wp2_with fail
      refine (callsIn_wide.2 HR.out).mono ?_
      rintro e W1 ⟨rfl, hb1⟩
      obtain ⟨hc1, hf1⟩ := bcell hb1
      have hs1 := hb1.size
      have HB1 := Lib.hid hb1
      have hJ1 := HST.out _ _ _ _ _ HJ.out (Ext.of_below hb1) (fun m hm => .inl hm) trivial
      obtain ⟨hk', hxx⟩ := HK.out
      obtain ⟨hc, hx⟩ := truthsF_at hk' (by rw [hxx]; exact HQ.out)
      obtain ⟨g1, t1, a1, b1, hy1, hR1⟩ := HY.out _ _ (.agg #[iv x0, iv x1, iv x2, iv x3, iv x4, iv x5, iv x6]) W1 hc hJ1 (by
        show _ = aggI (pad7 _)
        rw [hx, hxx, ← HO.out.2.2.2.1, HO.out.2.2.2.2])
      have hcn : cntF f out (k + 1) = cntF f out k + 1 := cntF_yes hk' (by rw [hxx]; exact HQ.out)
      have HR1 := Lib.hid hR1
      have HCN := Lib.hid hcn
      clear hR1 hJ1 hk' hxx hc hx hcn hb1
      gi_wp2_with fail
      refine HR1.out.mono ?_
      rintro e W' ⟨⟨hkeep, hsz⟩, ⟨rfl, hJ⟩ | ⟨rfl, hJ⟩⟩
      · have HJ' := Lib.hid hJ
        have HK' := Lib.hid hkeep
        clear hJ hkeep
        gi_wp2_with fail
        go_returns
        refine .inl ⟨by simp, by rw [HCN.out]; exact HJ'.out, o, HO.out.1, HO.out.2.1, HO.out.2.2.1, (HS.out.below HB1.out).kept (fun m hm hml => HK'.out m hm (by simp) hml)⟩
      · have HJ' := Lib.hid hJ
        clear hJ hkeep
        gi_wp2_with fail
        go_returns
        exact .inr ⟨by simp, HJ'.out⟩
  | succ m ih =>
    intro i k pre W o him hpl hol hot hod hat hst hJ
    have hi : i < (rangesF f).length := by omega
    have hcount := AtFrom.count hi
    have hw0 := hS.weed0
    have hw1 := hS.weed1
    have hr7 := hS.rows1
    have hr0 := hS.rows0
    have hri : (rangesF f)[i] = (-1, f.weeders - 1) := by simp [rangesF]
    obtain ⟨z, hz, hz4⟩ : ∃ z : Nat, (z : Int) = f.weeders + 1 ∧ z ≤ 4 := ⟨(f.weeders + 1).toNat, by omega, by omega⟩
    have hsz : (sizeR (rangesF f)[i]).toNat = z := by rw [hri]; unfold sizeR; simp only; omega
    rw [hsz] at hcount
    obtain ⟨hbf, hbo, htl, hov⟩ := hInv _ _ _ hJ
    obtain ⟨cc1, cf1, cl1⟩ := cells_of_block hbf
    have hne : (i : Int) ≠ f.rows := by omega
    have hneb : ((i : Int) == f.rows) = false := by simpa using hne
    have HNX : Hid (∀ c : Nat, c < z → AtFrom (rangesF f) (i + 1) (k + c * (prodL ((rangesF f).drop (i + 1))).length) (pre ++ [(c : Int) - 1])) := Lib.hid (fun c hc => by
      have := hat.next hi c (by rw [hsz]; exact hc)
      rw [hri] at this
      rw [show (c : Int) - 1 = -1 + (c : Int) from by omega]
      exact this)
    have HI := Lib.hid hInv
    have HST := Lib.hid hstep
    have HS := Lib.hid hst
    have HJ := Lib.hid hJ
    have HIH := Lib.hid ih
    have HOL := Lib.hid (And.intro hol (And.intro hot hod))
    have HCZ := Lib.hid hcount
    have HZ := Lib.hid hz
    have hi7 : i < 7 := by omega
    have hiR : i < f.rows.toNat := by omega
    clear hInv hstep hY hat hst hJ ih hcount hne hbf hbo htl hov hri hsz hi hol hot hod hRl hz
    refine callsIn_of_wp Try.func106 rfl trivial ?_
    simp only [Try.ntmps106, List.size_toArray, List.length_cons, List.length_nil, Nat.reduceAdd, Nat.reduceSub, Array.replicate_succ, Array.replicate_zero, List.push_toArray, List.append_toArray, List.nil_append, List.cons_append]
    gi_wp2_with fail
    rw [← HZ.out]
    gi_loopw [26] (fun u wr => ∃ c : Nat, c ≤ z ∧ u = .int .i64 c ∧ ∃ o' : List Int, o'.length = 7 ∧ o'.take i = pre ∧ o'.drop f.rows.toNat = List.replicate (7 - f.rows.toNat) 0 ∧ ChW wr bf bo by_ ab bc l o' ∧ J [ab, by_, bc] (some (cntF f out (k + c * (prodL ((rangesF f).drop (i + 1))).length))) wr)
      (fun u _ => z - (intOf u).toNat)
    case atStart => exact ⟨0, Nat.zero_le _, rfl, o, HOL.out.1, HOL.out.2.1, HOL.out.2.2, HS.out, by simpa using HJ.out⟩
    case round =>
      obtain ⟨c, hcz, rfl, o', ho1, ho2, ho3, hst, hJ⟩ := hrel
      by_cases hlt : c < z
      · obtain ⟨hbf, hbo, htl, hov⟩ := HI.out _ _ _ hJ
        obtain ⟨cd1, cfd1, cld1⟩ := cells_of_block hbf
        obtain ⟨cd3, cfd3, cld3⟩ := cells_of_block hst.ch
        obtain ⟨y, hcell⟩ : ∃ y, wr.cell? ⟨ab, i, none⟩ = some (iv y) := ⟨_, cell_of_ints hst.cells (show i < o'.length by omega)⟩
        have hab := World.block_lt_of_cell? wr _ hcell
        have hfr := frozen_of_block hst.cells i
        have HSt := Lib.hid hst
        have HJt := Lib.hid hJ
        have HO := Lib.hid (And.intro ho1 (And.intro ho2 ho3))
        have hltI : (c : Int) < z := by omega
        clear hst hJ hbf hbo htl hov ho1 ho2 ho3 cc1 cf1 cl1
        have hstS := HSt.out.set hd1 hd3 i ((c : Int) - 1)
        have hJS : J [ab, by_, bc] (some (cntF f out (k + c * (prodL ((rangesF f).drop (i + 1))).length))) (wr.setCell ⟨ab, i, none⟩ (iv ((c : Int) - 1))) :=
          HST.out _ _ _ _ _ HJt.out ((ext_set wr ⟨ab, i, none⟩ _).more (fun x hx => by simp at hx; subst hx; simp)) (fun m hm => .inl hm) trivial
        have hcall := HIH.out (i + 1) _ (pre ++ [(c : Int) - 1]) _ (o'.set i ((c : Int) - 1)) (by omega) (by simp [hpl]) (by simp [HO.out.1]) (by
          rw [List.take_set]
          rw [List.take_add_one, HO.out.2.1]
          have hio : i < o'.length := by have := HO.out.1; omega
          rw [List.getElem?_eq_getElem hio]
          simp [List.set_append_right, hpl]) (by
          rw [List.drop_set, if_pos hiR]; exact HO.out.2.2) (HNX.out c hlt) hstS hJS
        rw [show ((i + 1 : Nat) : Int) = (i : Int) + 1 from by omega] at hcall
        have HCALL := Lib.hid hcall
        clear hcall hstS hJS
        gi_wp2_with fail
        refine HCALL.out.mono ?_
        rintro e W2 (⟨rfl, hJ2, o2, ho1, ho2, ho3, hst2⟩ | ⟨rfl, hJ2⟩)
        · have HJ2 := Lib.hid hJ2
          have HST2 := Lib.hid hst2
          have HO2 := Lib.hid (And.intro ho1 (And.intro ho2 ho3))
          clear hJ2 hst2 ho1 ho2 ho3 cd1 cfd1 cld1 cd3 cfd3 cld3 hcell hab hfr
          gi_wp2_with fail
          go_roundw
          case rel =>
            refine ⟨c + 1, by omega, by go_num, o2, HO2.out.1, ?_, HO2.out.2.2, HST2.out, ?_⟩
            · have := congrArg (List.take i) HO2.out.2.1
              rw [List.take_take, Nat.min_eq_left (by omega)] at this
              rw [this, List.take_append_of_le_length (by omega), List.take_of_length_le (by omega)]
            · rw [Nat.add_mul, Nat.one_mul, ← Nat.add_assoc]; exact HJ2.out
          case measure => simp [intOf]; omega
        · have HJ2 := Lib.hid hJ2
          clear hJ2 cd1 cfd1 cld1 cd3 cfd3 cld3 hcell hab hfr
          gi_wp2_with fail
          go_returns
          exact .inr ⟨by simp, HJ2.out⟩
      · have hcz' : c = z := by omega
        subst hcz'
        have HJt := Lib.hid hJ
        have HSt := Lib.hid hst
        have HO := Lib.hid (And.intro ho1 (And.intro ho2 ho3))
        clear hJ hst ho1 ho2 ho3 cc1 cf1 cl1
        gi_wp2_with fail
        go_returns
        refine .inl ⟨by simp, ?_, o', HO.out.1, HO.out.2.1, HO.out.2.2, HSt.out⟩
        rw [HCZ.out]; exact HJt.out

theorem wtruths_seq (f : FieldD) (hS : SoundF f) (tv ov : Value) (out : List Int) (bf bo : Nat) :
    SeqC Try.prog 105 #[.pointer (some ⟨bf, 0, none⟩), .pointer (some ⟨bo, 0, none⟩)] (truthsF f out) AnsE [] (fun _ => True) (TfInv bf bo f tv ov out) := by
  intro l J W hInv hstep hY h0
  have hch := fun by_ ab bc hd1 hd3 => wchoose_any f hS tv ov out bf bo by_ ab bc l hd1 hd3 J hInv hstep hY
  have hr7 := hS.rows1
  have hRl : (rangesF f).length = f.rows.toNat := by simp [rangesF]
  have HCH := Lib.hid hch
  have HST := Lib.hid hstep
  have HJ := Lib.hid h0
  have hn2 : ∀ (A B : Obj) (v : Value) (t : TypeId), (((W.alloc A).alloc B).alloc (.cells #[v] t)).cell? ⟨W.heap.size + 1 + 1, 0, none⟩ = some v := fun A B v t => cell_of_block0 (heap_new2 W A B _)
  have hf2 : ∀ (A B : Obj) (v : Value) (t : TypeId), (((W.alloc A).alloc B).alloc (.cells #[v] t)).frozen? ⟨W.heap.size + 1 + 1, 0, none⟩ = false := fun A B v t => frozen_of_block (heap_new2 W A B _) 0
  clear hInv hstep hY hch h0 hS
  go_enter Try.func105, Try.ntmps105
  go_wp2_with fail
  refine (callsIn_wide.1 (HCH.out W.heap.size (W.heap.size + 1) (W.heap.size + 1 + 1) (by omega) (by omega) f.rows.toNat 0 0 [] _ (List.replicate 7 0) (by omega) rfl (by simp) (by simp) (by rw [List.drop_replicate]) (AtFrom.zero _) ⟨?_, ?_, ?_⟩
    (HST.out _ _ _ _ _ HJ.out (Ext.of_below (by repeat (first | exact Below.refl _ _ | assumption | refine bgo ?_ (by assumption) | refine bgoAlloc ?_ _ | refine bgoDrew ?_ | refine bgoSet ?_ (by simp; omega) _))) (fun m hm => .inr (by simp at hm; (first | omega | (simp; omega)))) trivial))).mono ?_
  · exact (Below.heap_alloc _ _ _ (by simp; omega)).trans ((Below.heap_alloc _ _ _ (by simp)).trans (heap_new0 _ _))
  · exact heap_new2 _ _ _ _
  · exact (Below.heap_alloc _ _ _ (by simp)).trans (heap_new1 _ _ _)
  · rintro e W2 (⟨rfl, hJ2, _⟩ | ⟨rfl, hJ2⟩)
    · have HJ2 := Lib.hid hJ2
      clear hJ2 hn2 hf2
      go_wp2_with fail
      go_end0
      refine ⟨⟨_, rfl⟩, [W.heap.size + 1, W.heap.size, W.heap.size + 1 + 1], .inl ?_⟩
      have := HJ2.out
      rw [← cntF_all]
      simpa [allF] using this
    · have HJ2 := Lib.hid hJ2
      clear hJ2 hn2 hf2
      go_wp2_with fail
      go_end0
      exact ⟨⟨_, rfl⟩, _, .inr HJ2.out⟩

/-- truths RETURNS ITS ITERATOR: the field and the tallies left out are boxed. -/
theorem wtruths_any (f : FieldD) (tv : Value) (o : Option Addr) (n c : Nat) (w : World) :
    Calls Try.prog 79 #[fv f tv, .slice o n c] w (fun e w' => e = .returned (.func (.func 105) #[] #[.pointer (some ⟨w.heap.size, 0, none⟩), .pointer (some ⟨w.heap.size + 1, 0, none⟩)]) ∧
      w' = (w.alloc (.cells (fcells f tv) 36)).alloc (.cells #[.slice o n c] 42)) := by
  go_enter Try.func79, Try.ntmps79
  go_wp2
  go_returns
  exact ⟨by simp, rfl⟩

end Go.Proofs.Ytdjgikcnmokjkaa

/-
  Contracts of package weed, fifth part: the iterator of truths.
  Contracts of package weed, sixth part: a field at work.
  Contracts of package weed, seventh part: how many rows each weeder did.
-/
import Derived.WalkKit
import Derived.WalkLawsBesides
import Derived.WalkSpells
import Derived.Outline
import Derived.Handy
import Derived.KernelRfl
import Derived.Lib.Hide
import Derived.Test.YtechgmnkcijahaaPA
namespace Go.Proofs.Ytechgmnkcijahaa
open Go.RowKit Go.RG Go.SL Go.Shelf Cou Go.TB
set_option maxHeartbeats 400000
set_option maxRecDepth 10000
attribute [local go_sem] Oper.semAt_some

/-- How many of the first k lists are truths. -/
def cntF (f : FieldD) (out : List Int) (k : Nat) : Nat := (((allF f).take k).filter (rightF f out)).length
theorem cntF_zero (f : FieldD) (out : List Int) : cntF f out 0 = 0 := rfl
theorem cntF_all (f : FieldD) (out : List Int) : cntF f out (allF f).length = (truthsF f out).length := by
  unfold cntF truthsF
  rw [List.take_length]
theorem cntF_no {f : FieldD} {out : List Int} {k : Nat} (hk : k < (allF f).length) (hp : rightF f out (allF f)[k] = false) : cntF f out (k + 1) = cntF f out k := by
  unfold cntF
  rw [List.take_succ_eq_append_getElem hk, List.filter_append, List.length_append]
  simp [hp]
theorem cntF_yes {f : FieldD} {out : List Int} {k : Nat} (hk : k < (allF f).length) (hp : rightF f out (allF f)[k] = true) : cntF f out (k + 1) = cntF f out k + 1 := by
  unfold cntF
  rw [List.take_succ_eq_append_getElem hk, List.filter_append, List.length_append]
  simp [hp]
theorem truthsF_at {f : FieldD} {out : List Int} {k : Nat} (hk : k < (allF f).length) (hp : rightF f out (allF f)[k] = true) :
    ∃ hc : cntF f out k < (truthsF f out).length, (truthsF f out)[cntF f out k] = (allF f)[k] := by
  have := filter_at (rightF f out) id (allF f) k hk hp
  rw [List.map_id] at this
  obtain ⟨hc, hx⟩ := List.getElem?_eq_some_iff.1 this
  exact ⟨hc, hx⟩

def pad7 (x : List Int) : List Int := x ++ List.replicate (7 - x.length) 0
theorem pad7_len {x : List Int} (h : x.length ≤ 7) : (pad7 x).length = 7 := by simp [pad7]; omega
theorem pad7_get (x : List Int) (i : Nat) : (pad7 x).getD i 0 = x.getD i 0 := by
  unfold pad7
  by_cases h : i < x.length
  · rw [List.getD_eq_getElem?_getD, List.getElem?_append_left h, ← List.getD_eq_getElem?_getD]
  · rw [List.getD_eq_getElem?_getD, List.getElem?_append_right (by omega), List.getElem?_replicate]
    have : x.getD i 0 = 0 := by rw [List.getD_eq_getElem?_getD, List.getElem?_eq_none (by omega)]; rfl
    rw [this]
    split <;> rfl
theorem didL_pad (x : List Int) (who : Int) (a n : Nat) : didL (pad7 x) who a n = didL x who a n := by
  unfold didL
  simp only [pad7_get]
theorem right_pad (f : FieldD) (out x : List Int) : rightF f out (pad7 x) = rightF f out x := by
  unfold rightF tallyR didT
  simp only [didL_pad]
theorem done_pad (f : FieldD) (x : List Int) (who : Int) : doneF f (pad7 x) who = doneF f x who := by
  unfold doneF didT
  rw [didL_pad]

/-- What choose works with. -/
structure ChW (W : World) (bf bo by_ ab bc l : Nat) (o : List Int) : Prop where
  y : W.heap[by_]? = some (.cells #[.func (.yield l) #[] #[]] 142 (0, 0))
  ch : W.heap[bc]? = some (.cells #[.func (.func 98) #[] #[.pointer (some ⟨bf, 0, none⟩), .pointer (some ⟨ab, 0, none⟩), .pointer (some ⟨bo, 0, none⟩), .pointer (some ⟨by_, 0, none⟩), .pointer (some ⟨bc, 0, none⟩)]] 67 (0, 0))
  cells : W.heap[ab]? = some (.cells (intCells o).toArray 105 (0, 0))

theorem ChW.kept {W W' : World} {bf bo by_ ab bc l : Nat} {o : List Int} (h : ChW W bf bo by_ ab bc l o) (hk : ∀ m ∈ [ab, by_, bc], m < W.heap.size → W'.heap[m]? = W.heap[m]?) : ChW W' bf bo by_ ab bc l o :=
  ⟨(hk _ (by simp) (Array.getElem?_eq_some_iff.1 h.y).1).trans h.y, (hk _ (by simp) (Array.getElem?_eq_some_iff.1 h.ch).1).trans h.ch, (hk _ (by simp) (Array.getElem?_eq_some_iff.1 h.cells).1).trans h.cells⟩
theorem ChW.below {W W' : World} {bf bo by_ ab bc l : Nat} {o : List Int} (h : ChW W bf bo by_ ab bc l o) (hb : Below W.heap.size W W') : ChW W' bf bo by_ ab bc l o :=
  h.kept fun m _ hm => hb.block m hm
theorem ChW.set {W : World} {bf bo by_ ab bc l : Nat} {o : List Int} (h : ChW W bf bo by_ ab bc l o) (hd1 : by_ ≠ ab) (hd3 : bc ≠ ab) (i : Nat) (x : Int) : ChW (W.setCell ⟨ab, i, none⟩ (iv x)) bf bo by_ ab bc l (o.set i x) :=
  ⟨(Below.heap_setCell _ _ _ _ hd1).trans h.y, (Below.heap_setCell _ _ _ _ hd3).trans h.ch, by rw [← set_ints]; exact set_block h.cells _⟩

/-- A list is handed over by value. -/
def AnsE (_ : List Nat) (x : List Int) (v : Value) (_ : World) : Prop := v = aggI (pad7 x)

/-- The field and the tallies left out lie in their boxes. -/
structure TfInv (bf bo : Nat) (f : FieldD) (tv ov : Value) (out : List Int) (W : World) : Prop where
  fb : W.heap[bf]? = some (.cells (fcells f tv) 30 (0, 0))
  ob : W.heap[bo]? = some (.cells #[ov] 36 (0, 0))
  tal : TalliesAt W tv f.tallies
  out : IntsAt W ov out

set_option maxHeartbeats 1600000 in
theorem wchoose_any (f : FieldD) (hS : SoundF f) (tv ov : Value) (out : List Int) (bf bo by_ ab bc l : Nat) (hd1 : by_ ≠ ab) (hd3 : bc ≠ ab) (J : List Nat → Option Nat → World → Prop)
    (hInv : ∀ Ms s W1, J Ms s W1 → TfInv bf bo f tv ov out W1)
    (hstep : ∀ Ms Ms' s W1 W2, J Ms s W1 → Ext Ms W1 W2 → (∀ m ∈ Ms', m ∈ Ms ∨ (W1.heap.size ≤ m ∧ m < W2.heap.size)) → True → J Ms' s W2)
    (hY : ∀ Ms k v W1 (hk : k < (truthsF f out).length), J Ms (some k) W1 → AnsE Ms (truthsF f out)[k] v W1 → YieldAt Fence.wide 0 Try.prog l #[v] W1 fun e W' =>
       ((∀ m ∈ Ms, m ∉ [] → m < W1.heap.size → W'.heap[m]? = W1.heap[m]?) ∧ W1.heap.size ≤ W'.heap.size) ∧ ((e = .returned (.bool true) ∧ J Ms (some (k + 1)) W') ∨ (e = .returned (.bool false) ∧ J Ms none W'))) :
    ∀ (m i k : Nat) (pre : List Int) (W : World) (o : List Int), i + m = f.rows.toNat → pre.length = i → o.length = 7 → o.take i = pre → o.drop f.rows.toNat = List.replicate (7 - f.rows.toNat) 0 → AtFrom (rangesF f) i k pre → ChW W bf bo by_ ab bc l o → J [ab, by_, bc] (some (cntF f out k)) W →
      CallsIn Fence.wide 0 Try.prog 98 #[iv i, .pointer (some ⟨bf, 0, none⟩), .pointer (some ⟨ab, 0, none⟩), .pointer (some ⟨bo, 0, none⟩), .pointer (some ⟨by_, 0, none⟩), .pointer (some ⟨bc, 0, none⟩)] W
        (fun e W' => (e = .returned (.bool true) ∧ J [ab, by_, bc] (some (cntF f out (k + (prodL ((rangesF f).drop i)).length))) W' ∧ ∃ o', o'.length = 7 ∧ o'.take i = pre ∧ o'.drop f.rows.toNat = List.replicate (7 - f.rows.toNat) 0 ∧ ChW W' bf bo by_ ab bc l o') ∨
          (e = .returned (.bool false) ∧ J [ab, by_, bc] none W')) := by
  have hRl : (rangesF f).length = f.rows.toNat := by simp [rangesF]
  intro m
  induction m with
  | zero =>
    intro i k pre W o him hpl hol hot hod hat hst hJ
    have hrow : (i : Int) = f.rows := by have := hS.rows0; omega
    obtain ⟨hone, hk, hx⟩ := hat.last (by omega)
    rw [hone]
    have hop : o = pad7 pre := by
      rw [← List.take_append_drop f.rows.toNat o, hod]
      rw [show f.rows.toNat = i from by omega, hot]
      unfold pad7
      rw [hpl]
    have hk' : k < (allF f).length := hk
    have hxx : (allF f)[k] = pre := hx
    obtain ⟨hbf, hbo, htl, hov⟩ := hInv _ _ _ hJ
    obtain ⟨ot, ct, rfl⟩ := htl.open
    obtain ⟨oo, oc, rfl⟩ := hov.open
    have hright := right_any f hS ot ct o hol _ out W htl hov
    rw [show rightF f out o = rightF f out pre from by rw [hop, right_pad]] at hright
    obtain ⟨cc1, cf1, cl1⟩ := cells_of_block hbf
    obtain ⟨cc2, cf2, cl2⟩ := cells_of_block hbo
    obtain ⟨cc3, cf3, cl3⟩ := cells_of_block hst.y
    obtain ⟨x0, x1, x2, x3, x4, x5, x6, hxs⟩ := seven_of hol
    have hag : aggI o = .agg #[iv x0, iv x1, iv x2, iv x3, iv x4, iv x5, iv x6] := by rw [hxs]; rfl
    have hcb := hst.cells
    rw [show (intCells o).toArray = #[iv x0, iv x1, iv x2, iv x3, iv x4, iv x5, iv x6] from by rw [hxs]; rfl] at hcb
    obtain ⟨cc4, cf4, cl4⟩ := cells_of_block hcb
    rw [hag] at hright
    have HR := Lib.hid hright
    have HS := Lib.hid hst
    have HJ := Lib.hid hJ
    have HI := Lib.hid hInv
    have HST := Lib.hid hstep
    have HY := Lib.hid hY
    have HK := Lib.hid (show ∃ h : k < (allF f).length, (allF f)[k] = pre from ⟨hk', hxx⟩)
    have HO := Lib.hid (And.intro hol (And.intro hot (And.intro hod (And.intro hop hag))))
    have heq : ((i : Int) == f.rows) = true := by simpa using hrow
    clear hright hInv hstep hY hst hJ hbf hbo htl hov hat hcb hop hag hxs hx hxx hk hk' hone hrow hot hod
    obtain ⟨q, hq⟩ : ∃ q, rightF f out pre = q := ⟨_, rfl⟩
    have HQ := Lib.hid hq
    rw [hq] at HR
    clear hq
    cases q
    · skip
      refine callsIn_of_wp Try.func98 rfl trivial ?_
      simp only [Try.ntmps98, List.size_toArray, List.length_cons, List.length_nil, Nat.reduceAdd, Nat.reduceSub, Array.replicate_succ, Array.replicate_zero, List.push_toArray, List.append_toArray, List.nil_append, List.cons_append]
      gi_wp2_with fail
      refine (callsIn_wide.2 HR.out).mono ?_
      rintro e W1 ⟨rfl, hb1⟩
      have HB1 := Lib.hid hb1
      clear hb1
      gi_wp2_with fail
      go_returns
      have hJ1 := HST.out _ _ _ _ _ HJ.out (Ext.of_below HB1.out) (fun m hm => .inl hm) trivial
      obtain ⟨hk', hxx⟩ := HK.out
      rw [← cntF_no hk' (by rw [hxx]; exact HQ.out)] at hJ1
      exact .inl ⟨by simp, hJ1, o, HO.out.1, HO.out.2.1, HO.out.2.2.1, HS.out.below HB1.out⟩
    · skip
      refine callsIn_of_wp Try.func98 rfl trivial ?_
      simp only [Try.ntmps98, List.size_toArray, List.length_cons, List.length_nil, Nat.reduceAdd, Nat.reduceSub, Array.replicate_succ, Array.replicate_zero, List.push_toArray, List.append_toArray, List.nil_append, List.cons_append]
      gi_wp2_with fail
      refine (callsIn_wide.2 HR.out).mono ?_
      rintro e W1 ⟨rfl, hb1⟩
      obtain ⟨hc1, hf1⟩ := bcell hb1
      have hs1 := hb1.size
      have HB1 := Lib.hid hb1
      have hJ1 := HST.out _ _ _ _ _ HJ.out (Ext.of_below hb1) (fun m hm => .inl hm) trivial
      obtain ⟨hk', hxx⟩ := HK.out
      obtain ⟨hc, hx⟩ := truthsF_at hk' (by rw [hxx]; exact HQ.out)
      obtain ⟨g1, t1, a1, b1, hy1, hR1⟩ := HY.out _ _ (.agg #[iv x0, iv x1, iv x2, iv x3, iv x4, iv x5, iv x6]) W1 hc hJ1 (by
        show _ = aggI (pad7 _)
        rw [hx, hxx, ← HO.out.2.2.2.1, HO.out.2.2.2.2])
      have hcn : cntF f out (k + 1) = cntF f out k + 1 := cntF_yes hk' (by rw [hxx]; exact HQ.out)
      have HR1 := Lib.hid hR1
      have HCN := Lib.hid hcn
      clear hR1 hJ1 hk' hxx hc hx hcn hb1
      gi_wp2_with fail
      refine HR1.out.mono ?_
      rintro e W' ⟨⟨hkeep, hsz⟩, ⟨rfl, hJ⟩ | ⟨rfl, hJ⟩⟩
      · have HJ' := Lib.hid hJ
        have HK' := Lib.hid hkeep
        clear hJ hkeep
        gi_wp2_with fail
        go_returns
        refine .inl ⟨by simp, by rw [HCN.out]; exact HJ'.out, o, HO.out.1, HO.out.2.1, HO.out.2.2.1, (HS.out.below HB1.out).kept (fun m hm hml => HK'.out m hm (by simp) hml)⟩
      · have HJ' := Lib.hid hJ
        clear hJ hkeep
        gi_wp2_with fail
        go_returns
        exact .inr ⟨by simp, HJ'.out⟩
  | succ m ih =>
    intro i k pre W o him hpl hol hot hod hat hst hJ
    have hi : i < (rangesF f).length := by omega
    have hcount := AtFrom.count hi
    have hw0 := hS.weed0
    have hw1 := hS.weed1
    have hr7 := hS.rows1
    have hr0 := hS.rows0
    have hri : (rangesF f)[i] = (-1, f.weeders - 1) := by simp [rangesF]
    obtain ⟨z, hz, hz4⟩ : ∃ z : Nat, (z : Int) = f.weeders + 1 ∧ z ≤ 4 := ⟨(f.weeders + 1).toNat, by omega, by omega⟩
    have hsz : (sizeR (rangesF f)[i]).toNat = z := by rw [hri]; unfold sizeR; simp only; omega
    rw [hsz] at hcount
    obtain ⟨hbf, hbo, htl, hov⟩ := hInv _ _ _ hJ
    obtain ⟨cc1, cf1, cl1⟩ := cells_of_block hbf
    have hne : (i : Int) ≠ f.rows := by omega
    have hneb : ((i : Int) == f.rows) = false := by simpa using hne
    have HNX : Hid (∀ c : Nat, c < z → AtFrom (rangesF f) (i + 1) (k + c * (prodL ((rangesF f).drop (i + 1))).length) (pre ++ [(c : Int) - 1])) := Lib.hid (fun c hc => by
      have := hat.next hi c (by rw [hsz]; exact hc)
      rw [hri] at this
      rw [show (c : Int) - 1 = -1 + (c : Int) from by omega]
      exact this)
    have HI := Lib.hid hInv
    have HST := Lib.hid hstep
    have HS := Lib.hid hst
    have HJ := Lib.hid hJ
    have HIH := Lib.hid ih
    have HOL := Lib.hid (And.intro hol (And.intro hot hod))
    have HCZ := Lib.hid hcount
    have HZ := Lib.hid hz
    have hi7 : i < 7 := by omega
    have hiR : i < f.rows.toNat := by omega
    clear hInv hstep hY hat hst hJ ih hcount hne hbf hbo htl hov hri hsz hi hol hot hod hRl hz
    refine callsIn_of_wp Try.func98 rfl trivial ?_
    simp only [Try.ntmps98, List.size_toArray, List.length_cons, List.length_nil, Nat.reduceAdd, Nat.reduceSub, Array.replicate_succ, Array.replicate_zero, List.push_toArray, List.append_toArray, List.nil_append, List.cons_append]
    gi_wp2_with fail
    rw [← HZ.out]
    gi_loopw [26] (fun u wr => ∃ c : Nat, c ≤ z ∧ u = .int .i64 c ∧ ∃ o' : List Int, o'.length = 7 ∧ o'.take i = pre ∧ o'.drop f.rows.toNat = List.replicate (7 - f.rows.toNat) 0 ∧ ChW wr bf bo by_ ab bc l o' ∧ J [ab, by_, bc] (some (cntF f out (k + c * (prodL ((rangesF f).drop (i + 1))).length))) wr)
      (fun u _ => z - (intOf u).toNat)
    case atStart => exact ⟨0, Nat.zero_le _, rfl, o, HOL.out.1, HOL.out.2.1, HOL.out.2.2, HS.out, by simpa using HJ.out⟩
    case round =>
      obtain ⟨c, hcz, rfl, o', ho1, ho2, ho3, hst, hJ⟩ := hrel
      by_cases hlt : c < z
      · obtain ⟨hbf, hbo, htl, hov⟩ := HI.out _ _ _ hJ
        obtain ⟨cd1, cfd1, cld1⟩ := cells_of_block hbf
        obtain ⟨cd3, cfd3, cld3⟩ := cells_of_block hst.ch
        obtain ⟨y, hcell⟩ : ∃ y, wr.cell? ⟨ab, i, none⟩ = some (iv y) := ⟨_, cell_of_ints hst.cells (show i < o'.length by omega)⟩
        have hab := World.block_lt_of_cell? wr _ hcell
        have hfr := frozen_of_block hst.cells i
        have HSt := Lib.hid hst
        have HJt := Lib.hid hJ
        have HO := Lib.hid (And.intro ho1 (And.intro ho2 ho3))
        have hltI : (c : Int) < z := by omega
        clear hst hJ hbf hbo htl hov ho1 ho2 ho3 cc1 cf1 cl1
        have hstS := HSt.out.set hd1 hd3 i ((c : Int) - 1)
        have hJS : J [ab, by_, bc] (some (cntF f out (k + c * (prodL ((rangesF f).drop (i + 1))).length))) (wr.setCell ⟨ab, i, none⟩ (iv ((c : Int) - 1))) :=
          HST.out _ _ _ _ _ HJt.out ((ext_set wr ⟨ab, i, none⟩ _).more (fun x hx => by simp at hx; subst hx; simp)) (fun m hm => .inl hm) trivial
        have hcall := HIH.out (i + 1) _ (pre ++ [(c : Int) - 1]) _ (o'.set i ((c : Int) - 1)) (by omega) (by simp [hpl]) (by simp [HO.out.1]) (by
          rw [List.take_set]
          rw [List.take_add_one, HO.out.2.1]
          have hio : i < o'.length := by have := HO.out.1; omega
          rw [List.getElem?_eq_getElem hio]
          simp [List.set_append_right, hpl]) (by
          rw [List.drop_set, if_pos hiR]; exact HO.out.2.2) (HNX.out c hlt) hstS hJS
        rw [show ((i + 1 : Nat) : Int) = (i : Int) + 1 from by omega] at hcall
        have HCALL := Lib.hid hcall
        clear hcall hstS hJS
        gi_wp2_with fail
        refine HCALL.out.mono ?_
        rintro e W2 (⟨rfl, hJ2, o2, ho1, ho2, ho3, hst2⟩ | ⟨rfl, hJ2⟩)
        · have HJ2 := Lib.hid hJ2
          have HST2 := Lib.hid hst2
          have HO2 := Lib.hid (And.intro ho1 (And.intro ho2 ho3))
          clear hJ2 hst2 ho1 ho2 ho3 cd1 cfd1 cld1 cd3 cfd3 cld3 hcell hab hfr
          gi_wp2_with fail
          go_roundw
          case rel =>
            refine ⟨c + 1, by omega, by go_num, o2, HO2.out.1, ?_, HO2.out.2.2, HST2.out, ?_⟩
            · have := congrArg (List.take i) HO2.out.2.1
              rw [List.take_take, Nat.min_eq_left (by omega)] at this
              rw [this, List.take_append_of_le_length (by omega), List.take_of_length_le (by omega)]
            · rw [Nat.add_mul, Nat.one_mul, ← Nat.add_assoc]; exact HJ2.out
          case measure => simp [intOf]; omega
        · have HJ2 := Lib.hid hJ2
          clear hJ2 cd1 cfd1 cld1 cd3 cfd3 cld3 hcell hab hfr
          gi_wp2_with fail
          go_returns
          exact .inr ⟨by simp, HJ2.out⟩
      · have hcz' : c = z := by omega
        subst hcz'
        have HJt := Lib.hid hJ
        have HSt := Lib.hid hst
        have HO := Lib.hid (And.intro ho1 (And.intro ho2 ho3))
        clear hJ hst ho1 ho2 ho3 cc1 cf1 cl1
        gi_wp2_with fail
        go_returns
        refine .inl ⟨by simp, ?_, o', HO.out.1, HO.out.2.1, HO.out.2.2, HSt.out⟩
        rw [HCZ.out]; exact HJt.out

theorem wtruths_seq (f : FieldD) (hS : SoundF f) (tv ov : Value) (out : List Int) (bf bo : Nat) :
    SeqC Try.prog 97 #[.pointer (some ⟨bf, 0, none⟩), .pointer (some ⟨bo, 0, none⟩)] (truthsF f out) AnsE [] (fun _ => True) (TfInv bf bo f tv ov out) := by
  intro l J W hInv hstep hY h0
  have hch := fun by_ ab bc hd1 hd3 => wchoose_any f hS tv ov out bf bo by_ ab bc l hd1 hd3 J hInv hstep hY
  have hr7 := hS.rows1
  have hRl : (rangesF f).length = f.rows.toNat := by simp [rangesF]
  have HCH := Lib.hid hch
  have HST := Lib.hid hstep
  have HJ := Lib.hid h0
  have hn2 : ∀ (A B : Obj) (v : Value) (t : TypeId), (((W.alloc A).alloc B).alloc (.cells #[v] t)).cell? ⟨W.heap.size + 1 + 1, 0, none⟩ = some v := fun A B v t => cell_of_block0 (heap_new2 W A B _)
  have hf2 : ∀ (A B : Obj) (v : Value) (t : TypeId), (((W.alloc A).alloc B).alloc (.cells #[v] t)).frozen? ⟨W.heap.size + 1 + 1, 0, none⟩ = false := fun A B v t => frozen_of_block (heap_new2 W A B _) 0
  clear hInv hstep hY hch h0 hS
  go_enter Try.func97, Try.ntmps97
  go_wp2_with fail
  refine (callsIn_wide.1 (HCH.out W.heap.size (W.heap.size + 1) (W.heap.size + 1 + 1) (by omega) (by omega) f.rows.toNat 0 0 [] _ (List.replicate 7 0) (by omega) rfl (by simp) (by simp) (by rw [List.drop_replicate]) (AtFrom.zero _) ⟨?_, ?_, ?_⟩
    (HST.out _ _ _ _ _ HJ.out (Ext.of_below (by repeat (first | exact Below.refl _ _ | assumption | refine bgo ?_ (by assumption) | refine bgoAlloc ?_ _ | refine bgoDrew ?_ | refine bgoSet ?_ (by simp; omega) _))) (fun m hm => .inr (by simp at hm; (first | omega | (simp; omega)))) trivial))).mono ?_
  · exact (Below.heap_alloc _ _ _ (by simp; omega)).trans ((Below.heap_alloc _ _ _ (by simp)).trans (heap_new0 _ _))
  · exact heap_new2 _ _ _ _
  · exact (Below.heap_alloc _ _ _ (by simp)).trans (heap_new1 _ _ _)
  · rintro e W2 (⟨rfl, hJ2, _⟩ | ⟨rfl, hJ2⟩)
    · have HJ2 := Lib.hid hJ2
      clear hJ2 hn2 hf2
      go_wp2_with fail
      go_end0
      refine ⟨⟨_, rfl⟩, [W.heap.size + 1, W.heap.size, W.heap.size + 1 + 1], .inl ?_⟩
      have := HJ2.out
      rw [← cntF_all]
      simpa [allF] using this
    · have HJ2 := Lib.hid hJ2
      clear hJ2 hn2 hf2
      go_wp2_with fail
      go_end0
      exact ⟨⟨_, rfl⟩, _, .inr HJ2.out⟩

/-- truths RETURNS ITS ITERATOR: the field and the tallies left out are boxed. -/
theorem wtruths_any (f : FieldD) (tv : Value) (o : Option Addr) (n c : Nat) (w : World) :
    Calls Try.prog 88 #[fv f tv, .slice o n c] w (fun e w' => e = .returned (.func (.func 97) #[] #[.pointer (some ⟨w.heap.size, 0, none⟩), .pointer (some ⟨w.heap.size + 1, 0, none⟩)]) ∧
      w' = (w.alloc (.cells (fcells f tv) 30)).alloc (.cells #[.slice o n c] 36)) := by
  go_enter Try.func88, Try.ntmps88
  go_wp2
  go_returns
  exact ⟨by simp, rfl⟩

end Go.Proofs.Ytechgmnkcijahaa

namespace Go.Proofs.Ytechgmnkcijahaa
open Go.RowKit Go.RG Go.SL Go.Shelf Cou Go.TB
set_option maxHeartbeats 400000
set_option maxRecDepth 10000
attribute [local go_sem] Oper.semAt_some

theorem tAns : SliceT Try.prog 112 105 (.agg #[iv 0, iv 0, iv 0, iv 0, iv 0, iv 0, iv 0]) 7 56 := ⟨Try.underlying112, by kernel_rfl, rfl, by omega⟩

/-- A caller's frame where nothing old turns: the caller's own blocks Os lie apart from the iterator's blocks Ms. -/
structure FrB (w : World) (Os Ms : List Nat) (W : World) : Prop where
  ext : Below w.heap.size w W
  old : ∀ m ∈ Ms, w.heap.size ≤ m
  bnd : ∀ m ∈ Ms, m < W.heap.size
  apart : ∀ b ∈ Os, b ∉ Ms ∧ b < W.heap.size

theorem FrB.step {w : World} {Os Ms Ms' : List Nat} {W1 W2 : World} (h : FrB w Os Ms W1) (hE : Ext Ms W1 W2) (hMs : ∀ m ∈ Ms', m ∈ Ms ∨ (W1.heap.size ≤ m ∧ m < W2.heap.size)) :
    FrB w Os Ms' W2 ∧ ∀ b ∈ Os, W2.heap[b]? = W1.heap[b]? := by
  have hsz := h.ext.size
  refine ⟨⟨h.ext.trans ⟨hE.os, hE.tape, hE.output, hE.size, fun k hk => ?_⟩, fun m hm => ?_, fun m hm => ?_, fun b hb => ?_⟩, fun b hb => hE.block b (h.apart b hb).2 (h.apart b hb).1⟩
  · exact hE.block k (by omega) (fun hk' => by have := h.old k hk'; omega)
  · rcases hMs m hm with h1 | h1
    · exact h.old m h1
    · omega
  · rcases hMs m hm with h1 | h1
    · exact Nat.lt_of_lt_of_le (h.bnd m h1) hE.size
    · exact h1.2
  · refine ⟨fun hb' => ?_, Nat.lt_of_lt_of_le (h.apart b hb).2 hE.size⟩
    rcases hMs b hb' with h1 | h1
    · exact (h.apart b hb).1 h1
    · have := (h.apart b hb).2; omega
theorem FrB.own {w : World} {Os Ms : List Nat} {W1 W2 : World} (h : FrB w Os Ms W1) (hE : Below w.heap.size w W2) (hs : W1.heap.size ≤ W2.heap.size) : FrB w Os Ms W2 :=
  ⟨hE, h.old, fun m hm => Nat.lt_of_lt_of_le (h.bnd m hm) hs, fun b hb => ⟨(h.apart b hb).1, Nat.lt_of_lt_of_le (h.apart b hb).2 hs⟩⟩
theorem FrB.put {w : World} {Os Ms : List Nat} {W : World} (h : FrB w Os Ms W) {r : Nat} (o : Obj) (hr : w.heap.size ≤ r) : FrB w Os Ms (W.putObj r o) :=
  h.own (h.ext.trans ⟨rfl, rfl, rfl, by simp, fun k hk => World.putObj_heap_other (by omega)⟩) (by simp)

def ansCells (ls : List (List Int)) : List Value := ls.flatMap fun x => intCells (pad7 x)
abbrev wkcells (f : FieldD) (tv v : Value) : Array Value := #[iv f.rows, iv f.weeders, iv f.left.1, iv f.left.2, tv, v]

theorem truthsF_count {f : FieldD} (hS : SoundF f) (out : List Int) : (truthsF f out).length ≤ 2500 := by
  have h1 := prodL_count (rangesF f) (rangesF_sz hS)
  rw [prod_rangesF] at h1
  have h2 := hS.many
  have h3 : (truthsF f out).length ≤ (allF f).length := List.length_filter_le _ _
  unfold allF at h3
  omega

/-- asked's own blocks: the field at work, the pointer to it, the iterator's two boxes. -/
structure AkSt (B : Nat) (f : FieldD) (tv : Value) (ls : List (List Int)) (Ms : List Nat) (W : World) : Prop where
  work : ∃ v, W.heap[B]? = some (.cells (wkcells f tv v) 114 (0, 0)) ∧ W.ownsRow (B + 6) 105 7 v ls.length (ansCells ls) ∧ ∀ g, v.ownBlock = some g → g ∉ Ms ∧ g < W.heap.size
  ptr : W.heap[B + 1]? = some (.cells #[.pointer (some ⟨B, 0, none⟩)] 109 (0, 0))
  b2 : W.heap[B + 2]? = some (.cells (fcells f tv) 30 (0, 0))
  b3 : W.heap[B + 3]? = some (.cells #[.slice none 0 0] 36 (0, 0))

theorem AkSt.kept {B : Nat} {f : FieldD} {tv : Value} {ls : List (List Int)} {Ms Ms' : List Nat} {W W' : World} (h : AkSt B f tv ls Ms W) (hs : W.heap.size ≤ W'.heap.size) (hk : ∀ b, B ≤ b → b < B + 4 → W'.heap[b]? = W.heap[b]?)
    (ho : ∀ g, B + 6 ≤ g → g < W.heap.size → g ∉ Ms → W'.heap[g]? = W.heap[g]?) (hM : ∀ m ∈ Ms', m ∈ Ms ∨ (W.heap.size ≤ m ∧ m < W'.heap.size)) : AkSt B f tv ls Ms' W' := by
  obtain ⟨v, h1, h2, h3⟩ := h.work
  refine ⟨⟨v, (hk _ (by omega) (by omega)).trans h1, owns_keep h2 fun g hg => ho g (owns_ge h2 g hg).1 (owns_ge h2 g hg).2 (h3 g hg).1, fun g hg => ⟨fun hm => ?_, by have := (h3 g hg).2; omega⟩⟩,
    (hk _ (by omega) (by omega)).trans h.ptr, (hk _ (by omega) (by omega)).trans h.b2, (hk _ (by omega) (by omega)).trans h.b3⟩
  rcases hM g hm with h4 | h4
  · exact (h3 g hg).1 h4
  · have := (h3 g hg).2; omega

/-- A field at work, with its truths. -/
structure WkAt (W : World) (wb : Nat) (f : FieldD) (tv v : Value) (ls : List (List Int)) : Prop where
  cells : W.heap[wb]? = some (.cells (wkcells f tv v) 114 (0, 0))
  tal : TalliesAt W tv f.tallies
  truth : SlAt 7 W v ls.length (ansCells ls)

theorem WkAt.lt {W : World} {wb : Nat} {f : FieldD} {tv v : Value} {ls : List (List Int)} (h : WkAt W wb f tv v ls) : wb < W.heap.size := (Array.getElem?_eq_some_iff.1 h.cells).1
theorem WkAt.below {W W' : World} {wb : Nat} {f : FieldD} {tv v : Value} {ls : List (List Int)} (h : WkAt W wb f tv v ls) {B : Nat} (hb : Below B W W') (hB : W.heap.size ≤ B) : WkAt W' wb f tv v ls :=
  ⟨(hb.block _ (by have := h.lt; omega)).trans h.cells, h.tal.below hb hB, h.truth.below hb hB⟩

def askFErr (f : FieldD) (fine : Bool) : Int := if faultF f ≠ 0 then faultF f else if fine = false then 2 else if (truthsF f []).isEmpty then 11 else 0
def AskFPost (f : FieldD) (tv : Value) (fine : Bool) (w : World) (e : Ending) (w' : World) : Prop :=
  Below w.heap.size w w' ∧ ((askFErr f fine ≠ 0 ∧ e = .returned (.tuple #[.pointer none, .int .i64 (askFErr f fine)])) ∨
    (askFErr f fine = 0 ∧ ∃ (wb : Nat) (v : Value), e = .returned (.tuple #[.pointer (some ⟨wb, 0, none⟩), .int .i64 0]) ∧ w.heap.size ≤ wb ∧ WkAt w' wb f tv v (truthsF f [])))

theorem wasked_any (f : FieldD) (tv : Value) (g : Nat) (caps : Array Value) (fine : Bool) (w : World) (ht : TalliesAt w tv f.tallies) (eg : ∀ args w, (callFunc g args).run Try.prog w = .ok (.enter g args) w)
    (hfine : ∀ W, Below w.heap.size w W → Calls Try.prog g caps W (PV (.bool fine) W)) :
    Calls Try.prog 66 #[fv f tv, .func (.func g) #[] caps] w (AskFPost f tv fine w) := by
  obtain ⟨o, c, rfl⟩ := ht.open
  have HT := Lib.hid ht
  have HF := Lib.hid hfine
  clear ht hfine
  by_cases hf0 : faultF f = 0
  case neg =>
    have HE : Hid (askFErr f fine = faultF f ∧ askFErr f fine ≠ 0) := Lib.hid (by unfold askFErr; rw [if_pos hf0]; exact ⟨rfl, hf0⟩)
    have HC := Lib.hid (checkF_any f (.slice o f.tallies.length c))
    generalize hff : faultF f = e at *
    clear hff
    go_enter Try.func66, Try.ntmps66
    go_wp2_with fail
    refine (HC.out _ (HT.out.alloc _)).mono ?_
    rintro e w' ⟨rfl, hb⟩
    go_wp2_with fail
    go_returns
    exact ⟨(by repeat (first | exact Below.refl _ _ | assumption | refine bgo ?_ (by assumption) | refine bgoAlloc ?_ _ | refine bgoDrew ?_ | refine bgoSet ?_ (by simp; omega) _)), .inl ⟨HE.out.2, by rw [HE.out.1]; simp⟩⟩
  have HC := Lib.hid (fun w => hf0 ▸ checkF_any f (.slice o f.tallies.length c) w)
  have HSS := Lib.hid (soundF_of hf0)
  have HF0 := Lib.hid hf0
  clear hf0
  cases fine
  · have HE : Hid (askFErr f false = 2) := Lib.hid (by unfold askFErr; rw [if_neg (by rw [HF0.out]; simp), if_pos rfl])
    go_enter Try.func66, Try.ntmps66
    go_wp2_with fail
    refine (HC.out _ (HT.out.alloc _)).mono ?_
    rintro e w' ⟨rfl, hb⟩
    have HB1 := Lib.hid (show Below w.heap.size w w' from (by repeat (first | exact Below.refl _ _ | assumption | refine bgo ?_ (by assumption) | refine bgoAlloc ?_ _ | refine bgoDrew ?_ | refine bgoSet ?_ (by simp; omega) _)))
    clear hb
    go_wp2_with fail
    refine (HF.out _ HB1.out).mono ?_
    rintro e w2 ⟨rfl, hb⟩
    have HB2 := Lib.hid (bgo HB1.out hb)
    clear hb
    go_wp2_with fail
    go_returns
    exact ⟨HB2.out, .inl ⟨by rw [HE.out]; simp, by rw [HE.out]; simp⟩⟩
  have HE : Hid (askFErr f true = if (truthsF f []).isEmpty then 11 else 0) := Lib.hid (by unfold askFErr; rw [if_neg (by rw [HF0.out]; simp), if_neg (by simp)])
  refine (callsIn_wide (n := 0)).1 ?_
  refine callsIn_of_wp_marks Try.func66 rfl trivial ?_
  simp only [Try.ntmps66, List.size_toArray, List.length_cons, List.length_nil, Nat.reduceAdd, Nat.reduceSub, Array.replicate_succ, Array.replicate_zero, List.push_toArray, List.append_toArray, List.nil_append, List.cons_append]
  gi_wp2_with fail
  refine (callsIn_wide.2 (HC.out _ (HT.out.alloc _))).mono ?_
  rintro e w1 ⟨rfl, hb⟩
  obtain ⟨hc1, hf1⟩ := bcell hb
  have hz1 : w.heap.size < w1.heap.size := by have := hb.size; simp at this; omega
  have HB1 := Lib.hid (show Below w.heap.size w w1 from (by repeat (first | exact Below.refl _ _ | assumption | refine bgo ?_ (by assumption) | refine bgoAlloc ?_ _ | refine bgoDrew ?_ | refine bgoSet ?_ (by simp; omega) _)))
  clear hb
  gi_wp2_with fail
  refine (callsIn_wide.2 (HF.out _ HB1.out)).mono ?_
  rintro e w2 ⟨rfl, hb⟩
  obtain ⟨hc2, hf2⟩ := bcell hb
  have hz2 : w.heap.size < w2.heap.size := by have := hb.size; omega
  have HB2 := Lib.hid (bgo HB1.out hb)
  clear hb
  gi_wp2_with fail
  refine (callsIn_wide.2 (wtruths_any f _ none 0 0 _)).mono ?_
  rintro e w3 ⟨rfl, rfl⟩
  gi_wp2_with fail
  obtain ⟨B, hBdef⟩ : ∃ B, w2.heap.size = B := ⟨_, rfl⟩
  rw [hBdef]
  obtain ⟨w4, hw4⟩ : ∃ w4, ((((w2.alloc (.cells #[iv f.rows, iv f.weeders, iv f.left.1, iv f.left.2, .slice o f.tallies.length c, .slice none 0 0] 114)).alloc (.cells #[.pointer (some ⟨B, 0, none⟩)] 109)).alloc (.cells (fcells f (.slice o f.tallies.length c)) 30)).alloc (.cells #[.slice none 0 0] 36)) = w4 := ⟨_, rfl⟩
  have hsz4 : w4.heap.size = B + 4 := by rw [← hw4]; simp; omega
  have hwB : w.heap.size < B := by omega
  have HB4 : Hid (Below w.heap.size w w4) := Lib.hid (by rw [← hw4]; exact bgoAlloc (bgoAlloc (bgoAlloc (bgoAlloc HB2.out _) _) _) _)
  have HA4 : Hid (AkSt B f (.slice o f.tallies.length c) [] [] w4) := Lib.hid (by
    rw [← hw4]
    refine ⟨⟨.slice none 0 0, ?_, ⟨rfl, .inl ⟨rfl, rfl⟩⟩, fun g hg => by cases hg⟩, ?_, ?_, ?_⟩
    · rw [← hBdef]; exact (Below.heap_alloc _ _ _ (by simp; omega)).trans ((Below.heap_alloc _ _ _ (by simp; omega)).trans ((Below.heap_alloc _ _ _ (by simp)).trans (heap_new0 _ _)))
    · rw [← hBdef]; exact (Below.heap_alloc _ _ _ (by simp)).trans ((Below.heap_alloc _ _ _ (by simp)).trans (heap_new1 _ _ _))
    · rw [← hBdef]; exact (Below.heap_alloc _ _ _ (by simp)).trans (heap_new2 _ _ _ _)
    · rw [← hBdef]; exact heap_new3 _ _ _ _ _)
  rw [hw4]
  clear hw4 hc1 hf1 hz1 hc2 hf2
  have hOs : ∀ b, b ∈ [w.heap.size, B, B + 1, B + 2, B + 3, B + 4, B + 5] ↔ b = w.heap.size ∨ (B ≤ b ∧ b < B + 6) := fun b => by simp; omega
  obtain ⟨Os, hOsd⟩ : ∃ Os, [w.heap.size, B, B + 1, B + 2, B + 3, B + 4, B + 5] = Os := ⟨_, rfl⟩
  rw [hOsd] at hOs
  clear hOsd
  have HT' : Hid (∀ W, Below w.heap.size w W → TalliesAt W (.slice o f.tallies.length c) f.tallies) := Lib.hid (fun W hb => HT.out.below hb (Nat.le_refl _))
  refine wpIn_rangeC (wtruths_seq f HSS.out (.slice o f.tallies.length c) (.slice none 0 0) [] (B + 1 + 1) (B + 1 + 1 + 1)) rfl (enters_of Try.func97 (by kernel_rfl) rfl) rfl (by simp)
    (fun Ms k W => FrB w Os Ms W ∧ AkSt B f (.slice o f.tallies.length c) ((truthsF f []).take k) Ms W)
    (fun _ _ _ => False)
    ?hInv ?hInvx ?hI ?hIx ?hIp ?hIxp ?h0
    (fun a Ms k W1 a₁ W => ∃ (x : List Int) (bt : Nat), (truthsF f [])[k]? = some x ∧ a₁ = { tmps := (a.tmps.setIfInBounds 24 (aggI (pad7 x))).setIfInBounds 8 (.pointer (some ⟨bt, 0, none⟩)), defers := [] } ∧
      (FrB w Os Ms W ∧ AkSt B f (.slice o f.tallies.length c) ((truthsF f []).take k) Ms W) ∧ (W.heap[bt]? = some (.cells (intCells (pad7 x)).toArray 105 (0, 0)) ∧ B + 6 ≤ bt ∧ bt ∉ Ms ∧ (∀ v, W.heap[B]? = some (.cells (wkcells f (.slice o f.tallies.length c) v) 114 (0, 0)) → v.ownBlock ≠ some bt)) ∧
      (∀ m ∈ Ms, m ∉ ([] : List Nat) → m < W1.heap.size → W.heap[m]? = W1.heap[m]?) ∧ W1.heap.size ≤ W.heap.size)
    ?hMp ?hassign ?hbody ?hdone ?hstop
  case hInv =>
    rintro Ms k W ⟨hF, hP⟩
    exact ⟨hP.b2, hP.b3, HT'.out W hF.ext, SlAt.nil 1 W⟩
  case hInvx => rintro cd Ms W h; exact h.elim
  case hI =>
    rintro Ms Ms' k Wa Wb ⟨hF, hP⟩ hE hMs _
    exact ⟨(hF.step hE hMs).1, hP.kept hE.size (fun b h1 h2 => (hF.step hE hMs).2 b ((hOs b).2 (by omega))) (fun g h1 h2 h3 => hE.block g h2 h3) hMs⟩
  case hIx => rintro cd Ms Ms' Wa Wb h; exact h.elim
  case hIp =>
    rintro Ms k W r ob ⟨hF, hP⟩ hr
    exact ⟨hF.put ob (by omega), hP.kept (by simp) (fun b h1 h2 => World.putObj_heap_other (by omega)) (fun g h1 h2 h3 => World.putObj_heap_other (by omega)) (fun m hm => .inl hm)⟩
  case hIxp => rintro cd Ms W r ob h; exact h.elim
  case h0 =>
    intro o1 o2
    refine ⟨⟨bgoAlloc (bgoAlloc HB4.out _) _, by simp, by simp, fun b hb => ⟨by simp, by have := (hOs b).1 hb; simp; omega⟩⟩, ?_⟩
    rw [List.take_zero]
    exact HA4.out.kept (by simp; omega) (fun b h1 h2 => (Below.heap_alloc _ _ _ (by simp; omega)).trans (Below.heap_alloc _ _ _ (by omega))) (fun g h1 h2 h3 => by omega) (fun m hm => .inl hm)
  case hMp =>
    rintro Ms k W1 a₁ W ob ⟨x, bt, hx, ha, ⟨hF, hP⟩, ⟨hbt, hb6, hbM, hbv⟩, hk, hs⟩
    have hap := (hF.apart (B + 5) ((hOs _).2 (by omega))).1
    refine ⟨x, bt, hx, ha, ⟨hF.put ob (by omega), hP.kept (by simp) (fun b h1 h2 => World.putObj_heap_other (by omega)) (fun g h1 h2 h3 => World.putObj_heap_other (by omega)) (fun m hm => .inl hm)⟩,
      ⟨(World.putObj_heap_other (by omega)).trans hbt, hb6, hbM, fun v hv => hbv v ((World.putObj_heap_other (by omega)).symm.trans hv)⟩,
      fun m hm h0 hml => (World.putObj_heap_other (fun e => hap (by rw [show B + 5 = m by omega]; exact hm))).trans (hk m hm h0 hml), by simpa using hs⟩
  case hassign =>
    rintro Ms k v W hk ⟨hF, hP⟩ hE hlt
    obtain rfl : v = aggI (pad7 (truthsF f [])[k]) := hE
    have hxk : (truthsF f [])[k]? = some (truthsF f [])[k] := List.getElem?_eq_getElem hk
    have hxl := truthsF_len (List.getElem_mem hk)
    generalize (truthsF f [])[k] = x at *
    have hr7 := HSS.out.rows1
    obtain ⟨y0, y1, y2, y3, y4, y5, y6, hys⟩ := seven_of (pad7_len (x := x) (by omega))
    have hYS := Lib.hid hys
    rw [hys]
    rw [show aggI [y0, y1, y2, y3, y4, y5, y6] = .agg #[iv y0, iv y1, iv y2, iv y3, iv y4, iv y5, iv y6] from rfl]
    gi_wp2
    have hB' : Below W.heap.size W (W.alloc (.cells #[iv y0, iv y1, iv y2, iv y3, iv y4, iv y5, iv y6] 105)) := bgoAlloc (Below.refl _ _) _
    refine ⟨⟨x, W.heap.size, hxk, ?_, ⟨(hF.step (Ext.of_below hB') (fun m hm => .inl hm)).1, hP.kept (by simp) (fun b h1 h2 => Below.heap_alloc _ _ _ (by omega)) (fun g h1 h2 h3 => Below.heap_alloc _ _ _ (by omega)) (fun m hm => .inl hm)⟩,
      ⟨?_, by omega, fun hm => by have := hF.bnd _ hm; omega, fun v hv e => ?_⟩, fun m hm h0 hml => Below.heap_alloc _ _ _ (by omega), by simp⟩, Below.heap_alloc _ _ _ (by omega), Below.heap_alloc _ _ _ (by omega)⟩
    · rw [hYS.out]; rfl
    · rw [hYS.out]; exact heap_new0 _ _
    · obtain ⟨v0, h1, h2, h3⟩ := hP.work
      have h4 := (Below.heap_alloc _ _ _ (by omega)).symm.trans hv
      rw [h1] at h4
      simp only [Option.some.injEq, Obj.cells.injEq, and_true, Array.mk.injEq, List.cons.injEq, true_and] at h4
      subst h4
      have := (h3 _ e).2
      omega
  case hbody =>
    rintro Ms k W1 a₁ W busy hk ⟨x, bt, hx, rfl, ⟨hF, hP⟩, ⟨hbt, hb6, hbM, hbv⟩, hkeep, hsz⟩ hrec hD
    simp only [List.setIfInBounds_toArray, List.set_cons_succ, List.set_cons_zero]
    obtain ⟨v, hv1, hv2, hv3⟩ := hP.work
    obtain ⟨vo, vc, rfl⟩ := owns_slice hv2
    have hbv' := hbv _ hv1
    obtain ⟨c1, f1, l1⟩ := cells_of_block hP.ptr
    obtain ⟨c2, f2, l2⟩ := cells_of_block hv1
    have hxl := truthsF_len (List.mem_of_getElem? hx)
    have hr7 := HSS.out.rows1
    obtain ⟨y0, y1, y2, y3, y4, y5, y6, hys⟩ := seven_of (pad7_len (x := x) (by omega))
    have hbt' := hbt
    rw [hys] at hbt'
    obtain ⟨c3, f3, l3⟩ := cells_of_block (show W.heap[bt]? = some (.cells #[iv y0, iv y1, iv y2, iv y3, iv y4, iv y5, iv y6] 105 (0, 0)) from hbt')
    have hw := (hF.apart w.heap.size ((hOs _).2 (.inl rfl)))
    obtain ⟨gx, hgx, hgx1, hgx2, hgx3, hgx4, hgx5⟩ : ∃ gx, (∀ g, (Value.slice vo ((truthsF f []).take k).length vc).ownBlock = some g → g = gx) ∧ (gx = w.heap.size ∨ B + 6 ≤ gx) ∧ gx < W.heap.size ∧ gx ∉ Ms ∧ gx ≠ bt ∧ w.heap.size ≤ gx := by
      cases hob : (Value.slice vo ((truthsF f []).take k).length vc).ownBlock with
      | none => exact ⟨w.heap.size, (fun g hg => by cases hg), .inl rfl, hw.2, hw.1, by omega, by omega⟩
      | some g =>
        have h1 := owns_ge hv2 g hob
        have h2 := hv3 g hob
        exact ⟨g, (fun g' hg => by cases hg; rfl), .inr h1.1, h1.2, h2.1, fun e => hbv' (by rw [hob, e]), by omega⟩
    have hkl : ((truthsF f []).take k).length = k := by rw [List.length_take]; omega
    rw [hkl] at hv1 hv2 hgx c2 hv3
    have hk25 : k ≤ 2500 := by have := truthsF_count HSS.out []; omega
    have HF := Lib.hid hF
    have HP := Lib.hid hP
    have HV := Lib.hid (And.intro hv1 (And.intro hv2 hv3))
    have HX := Lib.hid (And.intro hx (And.intro hys hxl))
    have HK := Lib.hid (And.intro hkeep (And.intro hrec hD))
    have HG := Lib.hid hgx
    have HBT := Lib.hid hbt'
    clear hF hP hv1 hv2 hv3 hx hys hxl hkeep hrec hD hgx hbt hbt' hbv hbv' hw
    have q1 : gx ≠ B := by omega
    have q2 : gx ≠ B + 1 := by omega
    have q1' : B ≠ gx := by omega
    have q2' : B + 1 ≠ gx := by omega
    have q3' : bt ≠ gx := by omega
    gi_wp2_with fail
    refine wpIn_region_rgR 8 [gx] (some 7) [(6, Spec.slice W.heap.size #[iv y0, iv y1, iv y2, iv y3, iv y4, iv y5, iv y6] 105 1), (7, ⟨fun _ v => ∃ o c, v = .slice o (k + 1) c, fun _ v Wx => Wx.ownsRow (B + 6) 105 7 v (k + 1) (ansCells ((truthsF f []).take (k + 1))) ∧ (∀ g, v.ownBlock = some g → g = gx ∨ W.heap.size ≤ g)⟩)] (by kernel_rfl) (by kernel_rfl) (by kernel_rfl) ?_
    simp only [List.take_succ_cons, List.take_zero, List.drop_succ_cons, List.drop_zero]
    repeat (first | (refine tree_det (by rfl) _ (by rfl) (fun W hW => by go_simp; (try simp (disch := omega) only [IntWalk.i64_in]); try rfl) ?_; simp only [Act.put, List.setIfInBounds_toArray, List.set_cons_succ, List.set_cons_zero]) | (refine tree_skip (by rfl) (by rfl) ?_; simp only [Act.put, List.setIfInBounds_toArray, List.set_cons_succ, List.set_cons_zero]))
    refine tree_slice W.heap.size _ _ 1 (by rfl) (Nat.le_refl _) (by rfl) (by simpa using hgx2) (by simp) (fun W hW => by go_simp; try rfl) (fun b6 => ?_)
    simp only [Act.put, List.setIfInBounds_toArray, List.set_cons_succ, List.set_cons_zero]
    refine tree_some _ (by rfl) (by rfl) (by exact ⟨.slice none (k + 1) 0, none, 0, rfl⟩) (fun W6 hE hF => ?_) (fun v Wa Wb ho hE => ?_) (fun v hv => ?_)
    · have hE' : Ext [] W W6 := hE
      obtain ⟨b', hb', hge, hcc⟩ := hF _ (List.Mem.head _) (by kernel_rfl)
      cases hb'
      have hown6 := owns_ext (Ms := []) HV.out.2.1 hE' (by simp)
      have hsrc : SlAt 7 W6 (.slice (some ⟨b6, 0, none⟩) 1 1) 1 (intCells (pad7 x)) := by
        rw [HX.out.2.1]
        exact SlAt.of_block 7 1 hcc rfl (by decide)
      refine Does.mono (does_append_at tAns (by rfl) (by rfl) hown6 (by rfl) hsrc (one_ints _) (by omega) (by omega) (by have := hE'.size; omega)) ?_
      rintro v' W7 ⟨ho, hgr, hcase⟩
      refine ⟨owns_slice ho, ⟨?_, fun g hg => ?_⟩, ⟨hgr.os, hgr.tape, hgr.output, hgr.size, fun b hb hn => hgr.block b hb (fun e => hn (by rw [HG.out b e.symm]; simp))⟩⟩
      · have hl : (truthsF f []).take (k + 1) = (truthsF f []).take k ++ [x] := by
          rw [List.take_add_one, HX.out.1]; rfl
        rw [hl]
        unfold ansCells
        rw [List.flatMap_append]
        simpa [ansCells] using ho
      · rcases hcase with h1 | h1
        · exact .inl (HG.out g (by rw [← h1, hg]))
        · rw [hg] at h1; injection h1 with h1; exact .inr (by have := hE'.size; omega)
    · exact ⟨owns_ext (Ms := []) ho.1 hE (by simp), ho.2⟩
    obtain ⟨o7, c7, rfl⟩ := hv
    simp only [Act.put, List.setIfInBounds_toArray, List.set_cons_succ, List.set_cons_zero]
    intro W8 hE hF
    have hE' : Ext [gx] W W8 := hE
    obtain ⟨ho8, hg8⟩ := hF _ (List.Mem.head _)
    have hwk8 : W8.heap[B]? = some (.cells (wkcells f (.slice o f.tallies.length c) (.slice vo k vc)) 114 (0, 0)) := (hE'.block _ l2 (by simpa using q1')).trans HV.out.1
    obtain ⟨c8, f8, l8⟩ := cells_of_block hwk8
    have HE8 := Lib.hid hE'
    have HO8 := Lib.hid (And.intro ho8 (And.intro hg8 hwk8))
    clear hE hF hE' ho8 hg8 c1 f1 l1 c2 f2 c3 f3 l3 hwk8
    gi_wp2_with fail
    have hkl1 : k + 1 = ((truthsF f []).take (k + 1)).length := by rw [List.length_take]; omega
    obtain ⟨v', hv'⟩ : ∃ v', Value.slice o7 (k + 1) c7 = v' := ⟨_, rfl⟩
    rw [hv'] at HO8 ⊢
    have hsz9 : (W8.setCell ⟨B, 5, none⟩ v').heap.size = W8.heap.size := by simp [World.setCell]
    have hs8 := HE8.out.size
    have hks : ∀ b, b < W.heap.size → b ≠ gx → b ≠ B → (W8.setCell ⟨B, 5, none⟩ v').heap[b]? = W.heap[b]? := fun b hb h1 h2 =>
      (Below.heap_setCell _ _ _ _ h2).trans (HE8.out.block b hb (by simpa using h1))
    have hap : ∀ b ∈ Os, b ∉ Ms ∧ b < W.heap.size := HF.out.apart
    have hin : ∀ b, B ≤ b → b < B + 6 → b ∈ Os := fun b h1 h2 => (hOs b).2 (by omega)
    have hFB : FrB w Os Ms (W8.setCell ⟨B, 5, none⟩ v') := HF.out.own (HF.out.ext.trans ⟨HE8.out.os, HE8.out.tape, HE8.out.output, by rw [hsz9]; exact hs8, fun b hb => (Below.heap_setCell _ _ _ _ (by show b ≠ B; omega)).trans (HE8.out.block b (by have := HF.out.ext.size; omega) (by simp; omega))⟩) (by rw [hsz9]; exact hs8)
    refine ⟨⟨?_, ?_, fun m hm h0 hml => ?_, by rw [hsz9]; omega⟩, hFB, ⟨v', set_block HO8.out.2.2 _, hkl1 ▸ owns_keep HO8.out.1 fun g hg => Below.heap_setCell _ _ _ _ (by have := (owns_ge HO8.out.1 g hg).1; show g ≠ B; omega), fun g hg => ⟨fun hm => ?_, by rw [hsz9]; exact (owns_ge HO8.out.1 g hg).2⟩⟩, ?_, ?_, ?_⟩
    · exact (hks _ (hap _ (hin (w4.heap.size + 1) (by omega) (by omega))).2 (by omega) (by omega)).trans HK.out.2.1
    · exact (hks _ (hap _ (hin w4.heap.size (by omega) (by omega))).2 (by omega) (by omega)).trans HK.out.2.2
    · exact (hks m (HF.out.bnd m hm) (fun e => hgx3 (e ▸ hm)) (fun e => (hap B (hin B (by omega) (by omega))).1 (e ▸ hm))).trans (HK.out.1 m hm h0 hml)
    · rcases HO8.out.2.1 g hg with h1 | h1
      · exact hgx3 (h1 ▸ hm)
      · have := HF.out.bnd g hm; omega
    · exact (hks _ (hap _ (hin (B + 1) (by omega) (by omega))).2 (by omega) (by omega)).trans HP.out.ptr
    · exact (hks _ (hap _ (hin (B + 2) (by omega) (by omega))).2 (by omega) (by omega)).trans HP.out.b2
    · exact (hks _ (hap _ (hin (B + 3) (by omega) (by omega))).2 (by omega) (by omega)).trans HP.out.b3
  case hdone =>
    rintro Ms W ⟨hF, hP⟩ hD hlt
    rw [List.take_length] at hP
    obtain ⟨v, hv1, hv2, hv3⟩ := hP.work
    obtain ⟨vo, vc, rfl⟩ := owns_slice hv2
    obtain ⟨c1, f1, l1⟩ := cells_of_block hP.ptr
    obtain ⟨c2, f2, l2⟩ := cells_of_block hv1
    have HF' := Lib.hid hF
    have HV := Lib.hid (And.intro hv1 hv2)
    have HL := Lib.hid (truthsF_count HSS.out [])
    clear hF hP hv1 hv2 hv3
    by_cases hn : (truthsF f []).length = 0
    · have hn' : ((((truthsF f []).length : Nat) : Int) == 0) = true := by simpa using hn
      have hE11 : askFErr f true = 11 := by rw [HE.out, if_pos (by simpa using hn)]
      have HE11 := Lib.hid hE11
      clear hE11 hn
      gi_wp2_with fail
      refine ⟨by simp, .inl ⟨_, _, rfl, run_takeDeferred hD, ?_⟩⟩
      exact ⟨.tuple #[.pointer none, .int .i64 11], by simp [results, Try.results66, go_sem], (HF'.out.put (Obj.deferred none) (by omega)).ext, .inl ⟨by rw [HE11.out]; simp, by rw [HE11.out]⟩⟩
    · have hn' : ((((truthsF f []).length : Nat) : Int) == 0) = false := by simpa using hn
      have hE0 : askFErr f true = 0 := by rw [HE.out, if_neg (by simpa using hn)]
      have HE0 := Lib.hid hE0
      clear hE0 hn
      gi_wp2_with fail
      refine ⟨by simp, .inl ⟨_, _, rfl, run_takeDeferred hD, ?_⟩⟩
      refine ⟨.tuple #[.pointer (some ⟨B, 0, none⟩), .int .i64 0], by simp [results, Try.results66, go_sem], (HF'.out.put (Obj.deferred none) (by omega)).ext, .inr ⟨HE0.out, B, .slice vo (truthsF f []).length vc, rfl, by omega, ?_, HT'.out _ (HF'.out.put (Obj.deferred none) (by omega)).ext, ?_⟩⟩
      · exact (World.putObj_heap_other (by omega)).trans HV.out.1
      · exact SlAt.of_owns (owns_keep HV.out.2 fun g hg => World.putObj_heap_other (by have := (owns_ge HV.out.2 g hg).1; omega))
  case hstop => rintro cd Ms W h; exact h.elim

end Go.Proofs.Ytechgmnkcijahaa

namespace Go.Proofs.Ytechgmnkcijahaa
open Go.RowKit Go.RG Go.SL Go.Shelf Cou Go.TB
set_option maxHeartbeats 400000
set_option maxRecDepth 10000

theorem wminimum_two (a b : Int) (g c : Nat) (w : World) (h0 : w.cell? ⟨g, 0, none⟩ = some (iv a)) (h1 : w.cell? ⟨g, 1, none⟩ = some (iv b)) :
    Calls Try.prog 89 #[.slice (some ⟨g, 0, none⟩) 2 c] w (PV (iv (min a b)) w) := by
  have H := Lib.hid (min_two a b g c w h0 h1)
  go_enter Try.func89, Try.ntmps89
  go_wp2_with fail
  refine H.out.mono ?_
  rintro e w' ⟨rfl, hb⟩
  go_wp2_with fail
  go_returns
  exact ⟨by simp, hb⟩

theorem wwider_any (r : Rng) (n : Int) (w : World) : Calls Try.prog 69 #[rv r, iv n] w (PV (rv (wid r n)) w) := by
  go_enter Try.func69, Try.ntmps69
  go_wp2_with fail
  refine wp_region_rg 10 [] none [(3, Spec.slice (w.heap.size + 2) #[iv r.1, iv n] 3 2), (4, Spec.val (iv (min r.1 n)))] (by as_aux_lemma => kernel_rfl) (by as_aux_lemma => kernel_rfl) ?_
  simp only [List.take_succ_cons, List.take_zero, List.drop_succ_cons, List.drop_zero]
  repeat (refine tree_det (by rfl) _ (by rfl) (fun W hW => by go_simp; (try simp (disch := omega) only [IntWalk.i64_in, Int.tdiv_eq_ediv_of_nonneg]); try rfl) ?_; simp only [Act.put, List.setIfInBounds_toArray, List.set_cons_succ, List.set_cons_zero])
  refine tree_slice (w.heap.size + 2) _ _ _ (by rfl) (by simp) (by rfl) (by simp) (by simp) (fun W hW => by go_simp; try rfl) (fun b => ?_)
  simp only [Act.put, List.setIfInBounds_toArray, List.set_cons_succ, List.set_cons_zero]
  refine tree_val _ (by rfl) (by rfl) 89 _ (fun W hW => by go_simp; try rfl) (fun W hE hF => ?_) ?_
  · obtain ⟨c, hcb, hB, hc⟩ := hF _ (List.Mem.head _) (by kernel_rfl)
    cases hcb
    exact wminimum_two r.1 n b 2 W (by simp [World.cell?, hc]) (by simp [World.cell?, hc])
  simp only [Act.put, List.setIfInBounds_toArray, List.set_cons_succ, List.set_cons_zero]
  repeat (refine tree_det (by rfl) _ (by rfl) (fun W hW => by go_simp; (try simp (disch := omega) only [IntWalk.i64_in, Int.tdiv_eq_ediv_of_nonneg]); try rfl) ?_; simp only [Act.put, List.setIfInBounds_toArray, List.set_cons_succ, List.set_cons_zero])
  intro W hE hF
  obtain ⟨hc, hf⟩ := bcell hE.below
  have hzE := hE.size
  (try simp only [World.size_alloc] at hzE)
  go_wp2
  all_goals
    (try simp only [Exit.inBlock, Exit.then])
    refine bodyPost_ret (v := rv (min r.1 n, max r.2 n)) (by simp [results, Try.results69, go_sem, hc]; try omega) rfl ?_
    exact ⟨rfl, (by repeat (first | exact Below.refl _ _ | assumption | refine bgo ?_ hE.below | refine bgo ?_ (by assumption) | refine bgoAlloc ?_ _ | refine bgoDrew ?_ | refine bgoSet ?_ (by simp; try omega) _))⟩

/-- The truth with a number lies in its seven cells. -/
theorem ans_cell {w : World} {o : Option Addr} {n c : Nat} {ls : List (List Int)} (h : SlAt 7 w (.slice o n c) ls.length (ansCells ls)) (h7 : ∀ x ∈ ls, x.length ≤ 7) {k : Nat} (hk : k < ls.length) :
    ∃ b off y0 y1 y2 y3 y4 y5 y6, o = some ⟨b, off, none⟩ ∧ b < w.heap.size ∧ pad7 ls[k] = [y0, y1, y2, y3, y4, y5, y6] ∧ w.cell? ⟨b, off + k * 7, none⟩ = some (iv y0) ∧ w.cell? ⟨b, off + k * 7 + 1, none⟩ = some (iv y1) ∧
      w.cell? ⟨b, off + k * 7 + 2, none⟩ = some (iv y2) ∧ w.cell? ⟨b, off + k * 7 + 3, none⟩ = some (iv y3) ∧ w.cell? ⟨b, off + k * 7 + 4, none⟩ = some (iv y4) ∧ w.cell? ⟨b, off + k * 7 + 5, none⟩ = some (iv y5) ∧ w.cell? ⟨b, off + k * 7 + 6, none⟩ = some (iv y6) := by
  obtain ⟨hl, o', c', hv, h1, h2, h3, h4⟩ := h
  cases hv
  obtain ⟨y0, y1, y2, y3, y4, y5, y6, hys⟩ := seven_of (pad7_len (h7 _ (List.getElem_mem hk)))
  cases o with
  | none => have := h3 rfl; omega
  | some a =>
    obtain ⟨b, off, sp⟩ := a
    obtain ⟨hs, hc⟩ := h4 _ rfl
    simp only at hs hc
    subst hs
    have g : ∀ j (hj : j < 7), (ansCells ls)[k * 7 + j]? = [iv y0, iv y1, iv y2, iv y3, iv y4, iv y5, iv y6][j]? := fun j hj => by
      unfold ansCells
      have : ∀ (ls : List (List Int)) (k : Nat) (hk : k < ls.length), (∀ x ∈ ls, x.length ≤ 7) → (ls.flatMap fun x => intCells (pad7 x))[k * 7 + j]? = (intCells (pad7 ls[k]))[j]? := by
        intro ls
        induction ls with
        | nil => intro k hk; simp at hk
        | cons x ls ih =>
          intro k hk h7
          have hx : (intCells (pad7 x)).length = 7 := by simp [intCells, pad7_len (h7 x (by simp))]
          rw [List.flatMap_cons]
          cases k with
          | zero => simp only [Nat.zero_mul, Nat.zero_add, List.getElem_cons_zero]; rw [List.getElem?_append_left (by omega)]
          | succ k =>
            rw [List.getElem?_append_right (by omega), hx, show (k + 1) * 7 + j - 7 = k * 7 + j from by omega]
            simpa using ih k (by simpa using hk) (fun y hy => h7 y (by simp [hy]))
      rw [this ls k hk h7, hys]
      rfl
    have r0 := hc (k * 7 + 0) (iv y0) (by rw [g 0 (by omega)]; rfl)
    have r1 := hc (k * 7 + 1) (iv y1) (by rw [g 1 (by omega)]; rfl)
    have r2 := hc (k * 7 + 2) (iv y2) (by rw [g 2 (by omega)]; rfl)
    have r3 := hc (k * 7 + 3) (iv y3) (by rw [g 3 (by omega)]; rfl)
    have r4 := hc (k * 7 + 4) (iv y4) (by rw [g 4 (by omega)]; rfl)
    have r5 := hc (k * 7 + 5) (iv y5) (by rw [g 5 (by omega)]; rfl)
    have r6 := hc (k * 7 + 6) (iv y6) (by rw [g 6 (by omega)]; rfl)
    rw [Nat.add_zero] at r0
    rw [← Nat.add_assoc] at r1 r2 r3 r4 r5 r6
    exact ⟨b, off, y0, y1, y2, y3, y4, y5, y6, rfl, World.block_lt_of_cell? w _ r0, hys, r0, r1, r2, r3, r4, r5, r6⟩

theorem done1_any (caps : Array Value) (hc : caps = #[]) (w : World) : Calls Try.prog 67 caps w (PV (.bool true) w) := by
  subst hc
  go_enter Try.func67, Try.ntmps67
  go_wp2
  go_returns
  exact ⟨by simp, Below.refl _ _⟩

/-- The bounds of a weeder's rows, in the first truths. -/
def rngF (f : FieldD) (ls : List (List Int)) (i : Int) (k : Nat) : Rng := (ls.take k).foldl (fun r a => wid r (doneF f a i)) (doneF f (ls.getD 0 []) i, doneF f (ls.getD 0 []) i)
theorem rngF_succ {f : FieldD} {ls : List (List Int)} {i : Int} {k : Nat} (hk : k < ls.length) : rngF f ls i (k + 1) = wid (rngF f ls i k) (doneF f ls[k] i) := by
  unfold rngF
  rw [List.take_succ_eq_append_getElem hk, List.foldl_append]
  rfl
theorem doneF_bd {f : FieldD} (hS : SoundF f) (a : List Int) (i : Int) : 0 ≤ doneF f a i ∧ doneF f a i ≤ 7 := by
  unfold doneF didT
  have := didL_bd a i (0 : Int).toNat (f.rows - 1 + 1 - 0).toNat
  have := hS.rows1
  have := hS.rows0
  omega
theorem rngF_bd {f : FieldD} (hS : SoundF f) (ls : List (List Int)) (i : Int) : ∀ k, k ≤ ls.length → (0 ≤ (rngF f ls i k).1 ∧ (rngF f ls i k).1 ≤ 7) ∧ (0 ≤ (rngF f ls i k).2 ∧ (rngF f ls i k).2 ≤ 7) := by
  intro k
  induction k with
  | zero => intro _; have := doneF_bd hS (ls.getD 0 []) i; simp only [rngF, List.take_zero, List.foldl_nil]; omega
  | succ k ih =>
    intro hk
    rw [rngF_succ (by omega)]
    have := ih (by omega)
    have := doneF_bd hS ls[k] i
    unfold wid
    simp only
    omega
def doneL (f : FieldD) : List Rng := (List.range f.weeders.toNat).map fun (i : Nat) => rngF f (truthsF f []) (i : Int) (truthsF f []).length

def DonePost (f : FieldD) (w : World) (e : Ending) (w' : World) : Prop :=
  Below w.heap.size w w' ∧ ((askFErr f true ≠ 0 ∧ e = .returned (.tuple #[.slice none 0 0, iv (askFErr f true)])) ∨ (askFErr f true = 0 ∧ ∃ v, e = .returned (.tuple #[v, iv 0]) ∧ PairsAt w' v (doneL f)))

theorem done7_any (f : FieldD) (tv : Value) (x : List Int) (y0 y1 y2 y3 y4 y5 y6 : Int) (hys : pad7 x = [y0, y1, y2, y3, y4, y5, y6]) (who : Int) (hS : SoundF f) (W : World) :
    Calls Try.prog 68 #[fv f tv, .agg #[iv y0, iv y1, iv y2, iv y3, iv y4, iv y5, iv y6], iv who] W (PV (iv (doneF f x who)) W) := by
  have := done_any f tv (pad7 x) (by rw [hys]; rfl) who W hS.rows0 hS.rows1
  rw [done_pad, hys] at this
  exact this

theorem tWRange : SliceT Try.prog 91 27 (rv (0, 0)) 2 16 := ⟨Try.underlying91, by kernel_rfl, rfl, by omega⟩

theorem ask_sound {f : FieldD} {b : Bool} (h : askFErr f b = 0) : SoundF f ∧ 0 < (truthsF f []).length ∧ b = true := by
  unfold askFErr at h
  split at h
  · omega
  · rename_i h1
    split at h
    · omega
    · rename_i h2
      split at h
      · omega
      · rename_i h3
        refine ⟨soundF_of (by omega), ?_, by simpa using h2⟩
        cases hl : truthsF f [] with
        | nil => rw [hl] at h3; simp at h3
        | cons x l => simp

set_option maxHeartbeats 1600000 in
theorem wDone_any (f : FieldD) (tv : Value) (w : World) (ht : TalliesAt w tv f.tallies) : Calls Try.prog 47 #[fv f tv] w (DonePost f w) := by
  obtain ⟨o, c, rfl⟩ := ht.open
  have HA := Lib.hid (wasked_any f (.slice o f.tallies.length c) 67 #[] true (w.alloc (.cells (fcells f (.slice o f.tallies.length c)) 30)) (ht.alloc _) (enters_of Try.func67 (by kernel_rfl) rfl) (fun W _ => done1_any #[] rfl W))
  clear ht
  go_enter Try.func47, Try.ntmps47
  go_wp2_with fail
  refine HA.out.mono ?_
  rintro e w1 ⟨hb, ⟨hne, rfl⟩ | ⟨h0, wb, v, rfl, hwb, hwk⟩⟩
  · have HB := Lib.hid (show Below w.heap.size w w1 from (by repeat (first | exact Below.refl _ _ | assumption | refine bgo ?_ (by assumption) | refine bgoAlloc ?_ _ | refine bgoDrew ?_ | refine bgoSet ?_ (by simp; omega) _)))
    obtain ⟨q, hq⟩ : ∃ q, askFErr f true = q := ⟨_, rfl⟩
    rw [hq] at hne ⊢
    have HN := Lib.hid (And.intro hq hne)
    have hneb : (q == 0) = false := by simpa using hne
    clear hb hne hq
    go_wp2_with fail
    go_returns
    exact ⟨HB.out, .inl ⟨by rw [HN.out.1]; exact HN.out.2, by rw [HN.out.1]; simp⟩⟩
  have HB := Lib.hid (show Below w.heap.size w w1 from (by repeat (first | exact Below.refl _ _ | assumption | refine bgo ?_ (by assumption) | refine bgoAlloc ?_ _ | refine bgoDrew ?_ | refine bgoSet ?_ (by simp; omega) _)))
  clear hb
  obtain ⟨hS, hpos, _⟩ := ask_sound h0
  have hlen7 : ∀ x ∈ truthsF f [], x.length ≤ 7 := fun x hx => by have := truthsF_len hx; have := hS.rows1; omega
  have hcnt := truthsF_count hS []
  obtain ⟨vo, vc, rfl⟩ := hwk.truth.open
  have HS := Lib.hid hS
  have HWK := Lib.hid hwk
  obtain ⟨dl, hdle⟩ : ∃ dl, doneL f = dl := ⟨_, rfl⟩
  have HDE := Lib.hid hdle
  have HDL : Hid (dl = (List.range f.weeders.toNat).map fun (i : Nat) => rngF f (truthsF f []) (i : Int) (truthsF f []).length) := Lib.hid (by rw [← hdle]; rfl)
  clear hdle
  have hw3 := hS.weed1
  have hw0 := hS.weed0
  have H0 := Lib.hid h0
  generalize truthsF f [] = ls at *
  obtain ⟨n, hn⟩ : ∃ n : Nat, f.weeders = n := ⟨f.weeders.toNat, by omega⟩
  have HN := Lib.hid hn
  obtain ⟨c1, f1, l1⟩ := cells_of_block hwk.cells
  have hn3 : n ≤ 3 := by omega
  rw [hn, Int.toNat_natCast] at HDL
  clear hwk hS h0 hn
  go_wp2_with fail
  rw [HN.out]
  have HL := Lib.hid (And.intro hpos (And.intro hlen7 hcnt))
  clear hpos hlen7 hcnt hw3 hw0
  go_loopw [6, 25] (fun ov u wr => ∃ i : Nat, i ≤ n ∧ u = .int .i64 i ∧ (∃ oo oc, ov = .slice oo i oc ∧ wr.ownsRow w1.heap.size 27 2 (.slice oo i oc) i (pairCells (dl.take i))) ∧ Below w1.heap.size w1 wr) (fun _ u _ => n - (intOf u).toNat)
  case atStart => exact ⟨0, Nat.zero_le _, rfl, ⟨none, 0, rfl, ⟨rfl, .inl ⟨rfl, rfl⟩⟩⟩, Below.refl _ _⟩
  case round =>
    obtain ⟨i, hi, rfl, ⟨oo, oc, rfl, how⟩, hB⟩ := hrel
    by_cases hlt : i < n
    · have hwr := HWK.out.below hB (Nat.le_refl _)
      obtain ⟨d1, g1, m1⟩ := cells_of_block hwr.cells
      obtain ⟨b, off, y0, y1, y2, y3, y4, y5, y6, hvv, hb, hys, r0, r1, r2, r3, r4, r5, r6⟩ := ans_cell hwr.truth HL.out.2.1 HL.out.1
      subst hvv
      have hD := done7_any f (.slice o f.tallies.length c) _ y0 y1 y2 y3 y4 y5 y6 hys (i : Int) HS.out
      have hr0 : rngF f ls (i : Int) 0 = (doneF f (ls[0]'HL.out.1) i, doneF f (ls[0]'HL.out.1) i) := by
        unfold rngF
        rw [show ls.getD 0 [] = ls[0]'HL.out.1 from by simp [List.getD, HL.out.1]]
        rfl
      have hdb := doneF_bd HS.out (ls[0]'HL.out.1) (i : Int)
      generalize doneF f (ls[0]'HL.out.1) (i : Int) = d at *
      have HD := Lib.hid hD
      have HR0 := Lib.hid hr0
      have HB' := Lib.hid hB
      have HOW := Lib.hid how
      clear hys hD hr0 hB how
      simp only [Nat.zero_mul, Nat.add_zero] at r0 r1 r2 r3 r4 r5 r6
      have hpos0 : 0 < ls.length := HL.out.1
      have hl25 : ls.length ≤ 2500 := HL.out.2.2
      go_upto_region 8 with (fail)
      refine wp_region_rg 12 [] none [(11, Spec.val (iv d))] (by as_aux_lemma => kernel_rfl) (by as_aux_lemma => kernel_rfl) ?_
      simp only [List.take_succ_cons, List.take_zero, List.drop_succ_cons, List.drop_zero]
      repeat (first | (refine tree_det (by rfl) _ (by rfl) (fun W hW => by go_simp; (try simp (disch := omega) only [IntWalk.i64_in]); try rfl) ?_; simp only [Act.put, List.setIfInBounds_toArray, List.set_cons_succ, List.set_cons_zero]) | (refine tree_skip (by rfl) (by rfl) ?_; simp only [Act.put, List.setIfInBounds_toArray, List.set_cons_succ, List.set_cons_zero]))
      refine tree_val _ (by rfl) (by rfl) 68 _ (fun W hW => by go_simp; try rfl) (fun W hE hF => by exact HD.out W) ?_
      simp only [Act.put, List.setIfInBounds_toArray, List.set_cons_succ, List.set_cons_zero]
      intro W hE hF
      obtain ⟨hc, hf⟩ := bcell hE.below
      have hzE := hE.size
      (try simp only [World.size_alloc] at hzE)
      have HBW := Lib.hid (show Below w1.heap.size w1 W from bgo HB'.out hE.below)
      have hoW := owns_ext (Ms := []) HOW.out hE (by simp)
      have hwW := HWK.out.below HBW.out (Nat.le_refl _)
      have HOW2 := Lib.hid hoW
      clear hE hF hc hf r0 r1 r2 r3 r4 r5 r6 hb d1 g1 m1 hoW hzE
      obtain ⟨d1, g1, m1⟩ := cells_of_block hwW.cells
      have hsW := HBW.out.size
      go_upto_region 10 with (fail)
      refine gworld fun W9 hW9 => ?_
      have hB9 : Below W.heap.size W W9 := by rw [hW9]; exact (by repeat (first | exact Below.refl _ _ | assumption | refine bgo ?_ (by assumption) | refine bgoAlloc ?_ _ | refine bgoDrew ?_ | refine bgoSet ?_ (by simp; omega) _))
      have hk9 : W9.heap[W.heap.size]? = some (.cells #[iv d, iv d] 27 (0, 0)) := by rw [hW9]; exact heap_new0 _ _
      have hb9 := bgo HBW.out hB9
      have ho9 := owns_ext (Ms := []) HOW2.out (Ext.of_below hB9) (by simp)
      have hg9 : ∀ g, (Value.slice oo i oc).ownBlock = some g → g ≠ W.heap.size := fun g hg => by have := (owns_ge HOW2.out g hg).2; omega
      have hw9 := HWK.out.below hb9 (Nat.le_refl _)
      clear hW9 d1 g1 m1 hwW
      obtain ⟨d1, g1, m1⟩ := cells_of_block hw9.cells
      have HG9 := Lib.hid hg9
      have HH9 := Lib.hid (And.intro hb9 (And.intro hk9 (And.intro ho9 hw9)))
      have hbW : w1.heap.size ≤ W.heap.size := hsW
      obtain ⟨b9, hb9d⟩ : ∃ b9, W.heap.size = b9 := ⟨_, rfl⟩
      rw [hb9d] at HG9 HH9 hbW
      rw [hb9d]
      clear hg9 hb9 hk9 ho9 hw9 hB9 hsW HBW HOW2 hb9d
      go_wp2_with fail
      go_loopw [48] (fun u wq => ∃ k : Nat, k ≤ ls.length ∧ u = .int .i64 k ∧ wq.heap[b9]? = some (.cells #[iv (rngF f ls i k).1, iv (rngF f ls i k).2] 27 (0, 0)) ∧ wq.ownsRow w1.heap.size 27 2 (.slice oo i oc) i (pairCells (dl.take i)) ∧ Below w1.heap.size w1 wq) (fun u _ => ls.length - (intOf u).toNat)
      case atStart => exact ⟨0, Nat.zero_le _, rfl, by rw [HR0.out]; exact HH9.out.2.1, HH9.out.2.2.1, HH9.out.1⟩
      case round =>
        obtain ⟨k, hk, rfl, hcell, how, hB⟩ := hrel
        by_cases hlk : k < ls.length
        · have hwr := HWK.out.below hB (Nat.le_refl _)
          obtain ⟨q1, q2, q3⟩ := cells_of_block hwr.cells
          obtain ⟨e1, e2, e3⟩ := cells_of_block hcell
          obtain ⟨b', off', z0, z1, z2, z3, z4, z5, z6, hvv, hb', hzs, s0, s1, s2, s3, s4, s5, s6⟩ := ans_cell hwr.truth HL.out.2.1 hlk
          cases hvv
          have hD2 := done7_any f (.slice o f.tallies.length c) _ z0 z1 z2 z3 z4 z5 z6 hzs (i : Int) HS.out
          have hsu := rngF_succ (f := f) (i := (i : Int)) hlk
          have hdb2 := doneF_bd HS.out ls[k] (i : Int)
          have hrb := rngF_bd HS.out ls (i : Int) k hk
          generalize doneF f ls[k] (i : Int) = d2 at *
          generalize hrk : rngF f ls (i : Int) k = r at *
          have HD2 := Lib.hid hD2
          have HSU := Lib.hid hsu
          have HQ := Lib.hid (And.intro hcell (And.intro how hB))
          clear hzs hD2 hsu hcell how hB hwr d1 g1 m1
          have hlkI : (k : Int) < ls.length := by omega
          go_upto_region 13 with (fail)
          refine gworld fun W5 hW5 => ?_
          have hB5 : Below wr.heap.size wr W5 := by rw [hW5]; exact (by repeat (first | exact Below.refl _ _ | assumption | refine bgo ?_ (by assumption) | refine bgoAlloc ?_ _ | refine bgoDrew ?_ | refine bgoSet ?_ (by simp; omega) _))
          have hk5 : W5.heap[wr.heap.size]? = some (.cells #[iv z0, iv z1, iv z2, iv z3, iv z4, iv z5, iv z6] 105 (0, 0)) := by rw [hW5]; exact heap_new0 _ _
          have hc5 := (hB5.block _ e3).trans HQ.out.1
          have hw5 := HWK.out.below (bgo HQ.out.2.2 hB5) (Nat.le_refl _)
          have HBB := Lib.hid (And.intro (bgo HQ.out.2.2 hB5) (And.intro (owns_ext (Ms := []) HQ.out.2.1 (Ext.of_below hB5) (by simp)) hc5))
          clear hW5 hB5 q1 q2 q3 e1 e2 s0 s1 s2 s3 s4 s5 s6 hb'
          obtain ⟨q1, q2, q3⟩ := cells_of_block hw5.cells
          obtain ⟨e1, e2, e4⟩ := cells_of_block hc5
          obtain ⟨p1, p2, p3⟩ := cells_of_block hk5
          clear hw5 hc5 hk5
          refine wp_region_rg 9 [] none [(7, Spec.val (iv d2)), (8, Spec.val (rv (wid r d2)))] (by as_aux_lemma => kernel_rfl) (by as_aux_lemma => kernel_rfl) ?_
          simp only [List.take_succ_cons, List.take_zero, List.drop_succ_cons, List.drop_zero]
          repeat (first | (refine tree_det (by rfl) _ (by rfl) (fun W hW => by go_simp; (try simp (disch := omega) only [IntWalk.i64_in]); try rfl) ?_; simp only [Act.put, List.setIfInBounds_toArray, List.set_cons_succ, List.set_cons_zero]) | (refine tree_skip (by rfl) (by rfl) ?_; simp only [Act.put, List.setIfInBounds_toArray, List.set_cons_succ, List.set_cons_zero]))
          refine tree_val _ (by rfl) (by rfl) 68 _ (fun W hW => by go_simp; try rfl) (fun W hE hF => by exact HD2.out W) ?_
          simp only [Act.put, List.setIfInBounds_toArray, List.set_cons_succ, List.set_cons_zero]
          refine tree_val _ (by rfl) (by rfl) 69 _ (fun W hW => by go_simp; try rfl) (fun W hE hF => by exact wwider_any r d2 W) ?_
          simp only [Act.put, List.setIfInBounds_toArray, List.set_cons_succ, List.set_cons_zero]
          intro W hE hF
          obtain ⟨hc, hf⟩ := bcell hE.below
          have hzE := hE.size
          (try simp only [World.size_alloc] at hzE)
          have HE := Lib.hid hE
          clear hF hzE
          go_wp2_with fail
          go_roundw
          case rel =>
            refine ⟨k + 1, by omega, by go_num, ?_, ?_, ?_⟩
            · rw [HSU.out]
              exact set_block (set_block ((HE.out.block _ e4 (by simp)).trans HBB.out.2.2) _) _
            · have h1 := owns_ext (Ms := []) HBB.out.2.1 HE.out (by simp)
              have h2 := owns_keep (w' := W.setCell ⟨b9, 0, none⟩ (iv (wid r d2).1)) h1 fun g hg => Below.heap_setCell _ _ _ _ (HG9.out g hg)
              exact owns_keep h2 fun g hg => Below.heap_setCell _ _ _ _ (HG9.out g hg)
            · exact bgoSet (bgoSet (bgo HBB.out.1 HE.out.below) hbW _) hbW _
          case measure => simp [intOf]; omega
        · have hkl : k = ls.length := by omega
          subst hkl
          have hdl : dl.take (i + 1) = dl.take i ++ [rngF f ls i ls.length] := by
            rw [List.take_add_one]
            congr 1
            rw [HDL.out]
            simp [hlt]
          have HDL1 := Lib.hid hdl
          have hrb := rngF_bd HS.out ls (i : Int) _ (Nat.le_refl _)
          generalize rngF f ls (i : Int) ls.length = r at *
          obtain ⟨e1, e2, e3⟩ := cells_of_block hcell
          have HQ := Lib.hid (And.intro how hB)
          clear hcell how hB hdl d1 g1 m1
          go_upto_region 15 with (fail)
          go_wp2_with (at_builtin; refine wpList_append rfl _ _ tWRange rfl w1.heap.size (.slice oo i oc) i (pairCells (dl.take i)) rfl ?_ (.slice (some ⟨wr.heap.size, 0, none⟩) 1 1) 1 [iv r.1, iv r.2] rfl ?_ (by simp [Value.oneCell']) (by omega) (by omega) (by have := HQ.out.2.size; simp; omega) ?_)
          · exact owns_ext (Ms := []) HQ.out.1 (Ext.of_below ((Below.refl _ _).alloc (Nat.le_refl _) _)) (by simp)
          · exact SlAt.of_block 2 1 (heap_new0 _ _) rfl (by decide)
          · intro v' W7 hown hgr
            obtain ⟨o7, c7, rfl⟩ := owns_slice hown
            have HO7 := Lib.hid hown
            have HG7 := Lib.hid hgr
            clear hown hgr
            go_wp2_with fail
            go_roundw
            case rel =>
              refine ⟨i + 1, by omega, by go_num, ⟨o7, c7, rfl, ?_⟩, ?_⟩
              · rw [HDL1.out, pairCells_snoc]
                exact HO7.out
              · refine Below.grown (bgoAlloc HQ.out.2 _) HG7.out (by have := HQ.out.2.size; simp; omega) (fun k e => (owns_ge HQ.out.1 k e).1)
            case measure => simp [intOf]; omega
    · have hin : i = n := by omega
      subst hin
      have HOW := Lib.hid (And.intro how hB)
      clear how hB
      go_wp2_with fail
      go_returns
      refine ⟨bgo HB.out HOW.out.2, .inr ⟨H0.out, _, by simp; rfl, ?_⟩⟩
      have h1 := SlAt.of_owns HOW.out.1
      have hdl : dl.length = i := by rw [HDL.out]; simp
      rw [List.take_of_length_le (by omega)] at h1
      rw [HDE.out]
      show SlAt 2 _ _ dl.length (pairCells dl)
      rw [hdl]
      exact h1

end Go.Proofs.Ytechgmnkcijahaa

/-
  The reference of chapter 9: Share.
-/
import Derived.WalkKit
import Derived.WalkLawsBesides
import Derived.WalkSpells
import Derived.Outline
import Derived.Handy
import Derived.KernelRfl
import Derived.Lib.Hide
import Derived.BigRegion
import Derived.Deep.Cut
import Derived.Test.YtdjgikcnmokjkaaGreatZI
import Derived.Test.YtdjgikcnmokjkaaGreatKF
namespace Go.Proofs.YtdjgikcnmokjkaaGreat
open Go.RowKit Go.RG Go.SL Go.Shelf Cou Go.TB
set_option maxHeartbeats 400000
set_option maxRecDepth 10000

def quosTo (of : Int) (ns : List Int) (k : Nat) : List Int := (List.range k).map (quoS of ns)
def remsTo (of : Int) (ns : List Int) (k : Nat) : List Int := (List.range k).map (remS of ns)
theorem quosTo_succ (of : Int) (ns : List Int) (k : Nat) : quosTo of ns (k + 1) = quosTo of ns k ++ [quoS of ns k] := by simp [quosTo, List.range_succ]
theorem remsTo_succ (of : Int) (ns : List Int) (k : Nat) : remsTo of ns (k + 1) = remsTo of ns k ++ [remS of ns k] := by simp [remsTo, List.range_succ]
theorem quosTo_len (of : Int) (ns : List Int) (k : Nat) : (quosTo of ns k).length = k := by simp [quosTo]
theorem remsTo_len (of : Int) (ns : List Int) (k : Nat) : (remsTo of ns k).length = k := by simp [remsTo]
theorem payTo_len (out rest : List Int) : ∀ k, (payTo out rest k).1.length = out.length ∧ (payTo out rest k).2.length = rest.length
  | 0 => ⟨rfl, rfl⟩
  | k + 1 => by unfold payTo; simp only [List.length_set]; exact payTo_len out rest k
theorem bestTo_lt (r : List Int) : ∀ k, bestTo r k ≤ k
  | 0 => Nat.le_refl _
  | k + 1 => by
    unfold bestTo
    have := bestTo_lt r k
    split <;> omega

/-- What the two lists hold of the pence. -/
structure ShAt (W : World) (B : Nat) (go_ gr : Nat) (co cr n : Nat) (out rest : List Int) : Prop where
  o : W.ownsRow B 3 1 (.slice (some ⟨go_, 0, none⟩) n co) n (intCells out)
  r : W.ownsRow B 3 1 (.slice (some ⟨gr, 0, none⟩) n cr) n (intCells rest)

theorem payTo_bd {out rest : List Int} (h1 : ∀ x ∈ out, 0 ≤ x ∧ x ≤ 10000) (h2 : ∀ x ∈ rest, -1 ≤ x ∧ x ≤ 10000) : ∀ k, (∀ x ∈ (payTo out rest k).1, 0 ≤ x ∧ x ≤ 10000 + k) ∧ (∀ x ∈ (payTo out rest k).2, -1 ≤ x ∧ x ≤ 10000)
  | 0 => ⟨fun x hx => by have := h1 x hx; simp; omega, h2⟩
  | k + 1 => by
    obtain ⟨g1, g2⟩ := payTo_bd h1 h2 k
    unfold payTo
    refine ⟨fun x hx => ?_, fun x hx => ?_⟩
    · rcases List.mem_or_eq_of_mem_set hx with hx | rfl
      · have := g1 x hx; push_cast; omega
      · by_cases hb : bestL (payTo out rest k).2 < (payTo out rest k).1.length
        · rw [show (payTo out rest k).1.getD (bestL (payTo out rest k).2) 0 = (payTo out rest k).1[bestL (payTo out rest k).2] from by simp [List.getD, hb]]
          have := g1 _ (List.getElem_mem hb)
          push_cast
          omega
        · have hz : (payTo out rest k).1.getD (bestL (payTo out rest k).2) 0 = 0 := by
            rw [List.getD_eq_getElem?_getD, List.getElem?_eq_none (by omega)]
            rfl
          rw [hz]
          exact ⟨by decide, by omega⟩
    · rcases List.mem_or_eq_of_mem_set hx with hx | rfl
      · exact g2 x hx
      · omega

set_option maxHeartbeats 8000000 in
theorem zShare_any (of : Int) (ns : List Int) (v : Value) (w : World) (h : IntsAt w v ns) (h0 : 0 ≤ of ∧ of ≤ 2000) (hs : 0 < sumI ns) (hn : ∀ z ∈ ns, 0 ≤ z ∧ z ≤ 2000) (h3 : ns.length ≤ 3) :
    Calls Tryz.prog 30 #[iv of, v] w (POwnI (rshareL of ns) w) := by
  have hne : ns ≠ [] := fun e => by rw [e] at hs; simp [sumI] at hs
  have hn1 : 1 ≤ ns.length := by cases ns with | nil => exact absurd rfl hne | cons _ _ => simp
  obtain ⟨l0, l1, _⟩ := left_bd (of := of) hs hne
  have hsb : sumI ns ≤ 6000 := by
    have : ∀ l : List Int, (∀ z ∈ l, 0 ≤ z ∧ z ≤ 2000) → sumI l ≤ 2000 * l.length := by
      intro l
      induction l with
      | nil => intro _; simp [sumI]
      | cons a l ih => intro hl; have := ih (fun z hz => hl z (by simp [hz])); have := hl a (by simp); rw [sumI_cons]; simp only [List.length_cons]; push_cast; omega
    have := this ns hn
    omega
  obtain ⟨wh, hwh⟩ : ∃ wh, sumI ns = wh := ⟨_, rfl⟩
  have hel : ∀ k, k < ns.length → 0 ≤ ns.getD k 0 ∧ ns.getD k 0 ≤ 2000 ∧ ns.getD k 0 ≤ wh := fun k hk => by
    rw [show ns.getD k 0 = ns[k] from by simp [List.getD, hk]]
    have hm := hn _ (List.getElem_mem hk)
    refine ⟨hm.1, hm.2, ?_⟩
    have : ∀ l : List Int, (∀ z ∈ l, 0 ≤ z) → ∀ x ∈ l, x ≤ sumI l := by
      intro l
      induction l with
      | nil => intro _ x hx; cases hx
      | cons a l ih =>
        intro hl x hx
        have hnn : 0 ≤ sumI l := by
          have : ∀ l : List Int, (∀ z ∈ l, 0 ≤ z) → 0 ≤ sumI l := by
            intro l
            induction l with
            | nil => intro _; simp [sumI]
            | cons b l ih => intro hl; have := ih fun z hz => hl z (by simp [hz]); have := hl b (by simp); rw [sumI_cons]; omega
          exact this l fun z hz => hl z (by simp [hz])
        rw [sumI_cons]
        rcases List.mem_cons.1 hx with rfl | hx
        · omega
        · have := ih (fun z hz => hl z (by simp [hz])) x hx
          have := hl a (by simp)
          omega
    rw [← hwh]
    exact this ns (fun z hz => (hn z hz).1) _ (List.getElem_mem hk)
  have hq : ∀ k, k < ns.length → quoS of ns k = of * ns.getD k 0 / wh ∧ remS of ns k = of * ns.getD k 0 % wh ∧ 0 ≤ quoS of ns k ∧ quoS of ns k ≤ 2000 ∧ 0 ≤ remS of ns k ∧ remS of ns k ≤ 6000 := fun k hk => by
    have e1 : quoS of ns k = of * ns.getD k 0 / wh := by unfold quoS; rw [hwh]
    have e2 : remS of ns k = of * ns.getD k 0 % wh := by unfold remS; rw [hwh]
    have hb := hel k hk
    have hm0 : 0 ≤ of * ns.getD k 0 := Int.mul_nonneg h0.1 hb.1
    have hm1 : of * ns.getD k 0 ≤ 2000 * wh := Int.mul_le_mul h0.2 hb.2.2 hb.1 (by omega)
    refine ⟨e1, e2, ?_, ?_, ?_, ?_⟩
    · rw [e1]; exact Int.ediv_nonneg hm0 (by omega)
    · rw [e1]; exact Int.ediv_le_of_le_mul (by omega) hm1
    · rw [e2]; exact Int.emod_nonneg _ (by omega)
    · rw [e2]; have := Int.emod_lt_of_pos (of * ns.getD k 0) (show 0 < wh by omega); omega
  obtain ⟨n, hnn⟩ : ∃ n, ns.length = n := ⟨_, rfl⟩
  have hqs : quosL of ns = quosTo of ns n := by unfold quosL quosTo; rw [hnn]
  have hrs : remsL of ns = remsTo of ns n := by unfold remsL remsTo; rw [hnn]
  obtain ⟨Lf, hLf⟩ : ∃ Lf : Nat, leftS of ns = Lf := ⟨(leftS of ns).toNat, by omega⟩
  have hlf : of - sumI (quosTo of ns n) = (Lf : Int) := by rw [← hqs]; exact hLf
  have hsl : ∀ k, k ≤ n → 0 ≤ sumI (quosTo of ns k) ∧ sumI (quosTo of ns k) ≤ 2000 * k := by
    intro k
    induction k with
    | zero => intro _; simp [quosTo, sumI]
    | succ k ih =>
      intro hk
      have := ih (by omega)
      have := hq k (by omega)
      rw [quosTo_succ, sumI_snoc]
      push_cast
      omega
  have hres : rshareL of ns = (payTo (quosTo of ns n) (remsTo of ns n) Lf).1 := by unfold rshareL; rw [hqs, hrs, hLf, Int.toNat_natCast]
  have hpb := payTo_bd (out := quosTo of ns n) (rest := remsTo of ns n) (fun x hx => by
    obtain ⟨i, hi, rfl⟩ := List.mem_map.1 hx
    have := hq i (by have := List.mem_range.1 hi; omega)
    omega) (fun x hx => by
    obtain ⟨i, hi, rfl⟩ := List.mem_map.1 hx
    have := hq i (by have := List.mem_range.1 hi; omega)
    omega)
  have HSUM := Lib.hid (zSum_any ns v)
  have HQ := Lib.hid (And.intro hq (And.intro hsl (And.intro hlf hpb)))
  have HH := Lib.hid (And.intro h hn)
  have HWH := Lib.hid hwh
  obtain ⟨o, c, rfl⟩ := h.open
  rw [hres]
  rw [hnn] at hn1 h3 l1 HSUM ⊢
  have HN := Lib.hid hnn
  have hLn : Lf < n := by omega
  have hwp : 0 < wh := by omega
  have hwm : wh ≤ 6000 := by omega
  have hwz : (wh == 0) = false := by rw [beq_eq_false_iff_ne]; omega
  have hwz' : ¬ wh = 0 := by omega
  clear h hn hs hsb hne l0 l1 hel hq hqs hrs hLf hlf hsl hres hpb hwh hnn
  go_enter Tryz.func30, Tryz.ntmps30
  go_wp2_with fail
  refine (HSUM.out w (by have := HH.out.1; unfold IntsAt at this ⊢; rw [HN.out] at this ⊢; exact this) (fun x hx => by have := HH.out.2 x hx; omega) (by omega)).mono ?_
  rintro e W0 ⟨rfl, hb⟩
  rw [HWH.out]
  have HB0 := Lib.hid (show Below w.heap.size w W0 from hb)
  clear hb
  go_wp2_with fail
  go_loopw [6, 7, 8, 9] (fun v6 v7 v8 u wr => ∃ k : Nat, k ≤ n ∧ u = .int .i64 k ∧ v6 = .int .i64 (of - sumI (quosTo of ns k)) ∧ ∃ oo co ro cr, v7 = .slice oo k co ∧ v8 = .slice ro k cr ∧ wr.ownsRow W0.heap.size 3 1 (.slice oo k co) k (intCells (quosTo of ns k)) ∧ wr.ownsRow W0.heap.size 3 1 (.slice ro k cr) k (intCells (remsTo of ns k)) ∧ (∀ g, (Value.slice oo k co).ownBlock = some g → (Value.slice ro k cr).ownBlock ≠ some g) ∧ Below W0.heap.size W0 wr) (fun _ _ _ u _ => n - (intOf u).toNat)
  case atStart => exact ⟨0, Nat.zero_le _, rfl, by simp [quosTo, sumI], none, 0, none, 0, rfl, rfl, ⟨rfl, .inl ⟨rfl, rfl⟩⟩, ⟨rfl, .inl ⟨rfl, rfl⟩⟩, (fun g hg => by simp [Value.ownBlock] at hg), Below.refl _ _⟩
  case round =>
    obtain ⟨k, hk, rfl, rfl, oo, co, ro, cr, rfl, rfl, how, hrw, hdis, hB⟩ := hrel
    have hs0 := hB.size
    by_cases hlt : k < n
    · have hkn : k < ns.length := by rw [HN.out]; exact hlt
      obtain ⟨b, off, hv, hb1, hc⟩ := IntsAt.cell (show SlAt 1 wr (.slice o ns.length c) ns.length (intCells ns) from (HH.out.1.below HB0.out (Nat.le_refl _)).below hB (Nat.le_refl _)) hkn
      have hyb := HH.out.2 _ (List.getElem_mem hkn)
      have gk : ns.getD k 0 = ns[k] := by simp [List.getD, hkn]
      obtain ⟨q1, q2, q3, q4, q5, q6⟩ := HQ.out.1 k hkn
      rw [gk] at q1 q2
      have hm : 0 ≤ of * ns[k] ∧ of * ns[k] ≤ 2000 * 2000 := ⟨Int.mul_nonneg h0.1 hyb.1, Int.mul_le_mul h0.2 hyb.2 hyb.1 (by omega)⟩
      have hsb1 := HQ.out.2.1 k (by omega)
      have hsu : sumI (quosTo of ns (k + 1)) = sumI (quosTo of ns k) + quoS of ns k := by rw [quosTo_succ, sumI_snoc]
      have HSU := Lib.hid (And.intro hsu (And.intro (quosTo_succ of ns k) (remsTo_succ of ns k)))
      have HK := Lib.hid (And.intro how (And.intro hrw (And.intro hdis hB)))
      generalize ns[k] = y at *
      generalize quoS of ns k = qk at *
      generalize remS of ns k = rk at *
      obtain ⟨sk, hsk⟩ : ∃ sk, sumI (quosTo of ns k) = sk := ⟨_, rfl⟩
      rw [hsk] at hsb1 HSU ⊢
      obtain ⟨mm, hmm⟩ : ∃ mm, of * y = mm := ⟨_, rfl⟩
      rw [hmm] at q1 q2 hm
      have htd : mm.tdiv wh = qk := by rw [q1]; exact Int.tdiv_eq_ediv_of_nonneg hm.1
      have htm : mm.tmod wh = rk := by rw [q2]; exact Int.tmod_eq_emod_of_nonneg hm.1
      have hltI : (k : Int) < n := by omega
      cases hv
      clear hsu gk hsk q1 q2
      cases oo with
      | none =>
        clear how hrw hdis hB
        go_upto_region 7 with (fail)
        refine wp_region_rg 11 [] (some 5) [(4, Spec.slice wr.heap.size #[iv qk] 3 1), (5, ⟨fun _ v => ∃ o c, v = .slice o (k + 1) c, fun _ v Wx => Wx.ownsRow W0.heap.size 3 1 v (k + 1) (intCells (quosTo of ns (k + 1))) ∧ ∀ g, v.ownBlock = some g → (Value.slice ro k cr).ownBlock ≠ some g⟩), (10, Spec.slice wr.heap.size #[iv rk] 3 1)] (by as_aux_lemma => kernel_rfl) (by as_aux_lemma => kernel_rfl) ?_
        simp only [List.take_succ_cons, List.take_zero, List.drop_succ_cons, List.drop_zero]
        repeat (first | (refine tree_det (by rfl) _ (by rfl) (fun W hW => by go_simp; (try simp (disch := omega) only [IntWalk.i64_in]); try rfl) ?_; simp only [Act.put, List.setIfInBounds_toArray, List.set_cons_succ, List.set_cons_zero]) | (refine tree_skip (by rfl) (by rfl) ?_; simp only [Act.put, List.setIfInBounds_toArray, List.set_cons_succ, List.set_cons_zero]))
        (try rw [htd])
        refine tree_slice wr.heap.size _ _ 1 (by rfl) (Nat.le_refl _) (by rfl) (by simp) (by simp) (fun W hW => by go_simp; try rfl) (fun b2 => ?_)
        simp only [Act.put, List.setIfInBounds_toArray, List.set_cons_succ, List.set_cons_zero]
        refine tree_some _ (by rfl) (by rfl) (by exact ⟨.slice none (k + 1) 0, none, 0, rfl⟩) (fun Wa hE hF => ?_) (fun v Wa Wb ho hE => ?_) (fun v hv => ?_)
        · have hE' : Ext [] wr Wa := hE
          obtain ⟨b', hb', hge, hcc⟩ := hF _ (List.Mem.head _) (by kernel_rfl)
          cases hb'
          have hown6 := owns_ext (Ms := []) HK.out.1 hE' (by simp)
          have hrst := owns_ext (Ms := []) HK.out.2.1 hE' (by simp)
          have hsrc : SlAt 1 Wa (.slice (some ⟨b2, 0, none⟩) 1 1) 1 (intCells [qk]) := SlAt.of_block 1 1 hcc rfl (by decide)
          refine Does.mono (does_append_at tInts (by rfl) (by rfl) hown6 (by rfl) hsrc (one_ints _) (by omega) (by omega) (by have := hE'.size; omega)) ?_
          rintro v' Wc ⟨ho, hgr, hcase⟩
          refine ⟨owns_slice ho, ⟨?_, fun g hg hr => ?_⟩, ⟨hgr.os, hgr.tape, hgr.output, hgr.size, fun b hb hn => hgr.block b hb (fun e => by first | (simp [Value.ownBlock] at e; done) | (simp [Value.ownBlock] at e; exact hn (by simp [e])))⟩⟩
          · rw [HSU.out.2.1, intCells_app]
            exact ho
          · rcases hcase with e | e
            · rw [e] at hg
              exact HK.out.2.2.1 g hg hr
            · rw [e] at hg
              have h1 := (owns_ge hrst g hr).2
              have h2 : Wa.heap.size = g := by simpa using hg
              omega
        · exact ⟨owns_ext (Ms := []) ho.1 hE (by simp), ho.2⟩
        obtain ⟨o3, c3, rfl⟩ := hv
        simp only [Act.put, List.setIfInBounds_toArray, List.set_cons_succ, List.set_cons_zero]
        repeat (first | (refine tree_det (by rfl) _ (by rfl) (fun W hW => by go_simp; (try simp (disch := omega) only [IntWalk.i64_in]); try rfl) ?_; simp only [Act.put, List.setIfInBounds_toArray, List.set_cons_succ, List.set_cons_zero]) | (refine tree_skip (by rfl) (by rfl) ?_; simp only [Act.put, List.setIfInBounds_toArray, List.set_cons_succ, List.set_cons_zero]))
        (try rw [htm])
        refine tree_slice wr.heap.size _ _ 1 (by rfl) (Nat.le_refl _) (by rfl) (by simp) (by simp) (fun W hW => by go_simp; try rfl) (fun b8 => ?_)
        simp only [Act.put, List.setIfInBounds_toArray, List.set_cons_succ, List.set_cons_zero]
        (try simp only [])
        intro W8 hE hF
        have hE' : Ext [] wr W8 := hE
        obtain ⟨b8', hb8, hge8, hcc8⟩ := hF _ (List.Mem.head _)
        cases hb8
        obtain ⟨ho8, hds8⟩ := hF _ (List.Mem.tail _ (List.Mem.head _))
        have hr8 : W8.ownsRow W0.heap.size 3 1 (.slice ro k cr) k (intCells (remsTo of ns k)) := owns_ext' HK.out.2.1 hE' fun x hx e => by
          first
          | (simp at hx; done)
          | (have hxg : x = gb := by simpa using hx
             subst hxg
             exact HK.out.2.2.1 x rfl e)
        have hB8 : Below W0.heap.size W0 W8 := ⟨hE'.os.trans HK.out.2.2.2.os, hE'.tape.trans HK.out.2.2.2.tape, hE'.output.trans HK.out.2.2.2.output, Nat.le_trans HK.out.2.2.2.size hE'.size, fun b hb => (hE'.block b (by have := HK.out.2.2.2.size; omega) (by simp <;> omega)).trans (HK.out.2.2.2.block b hb)⟩
        have hz8 := hE'.size
        have H8 := Lib.hid (And.intro ho8 (And.intro hds8 (And.intro hr8 (And.intro hB8 hcc8))))
        clear hE hF hE' ho8 hds8 hr8 hB8 hcc8
        go_wp2_with (at_builtin; go_loud (refine wpList_append_at rfl _ _ tInts rfl W0.heap.size (.slice ro k cr) k (intCells (remsTo of ns k)) rfl H8.out.2.2.1 (.slice (some ⟨b8, 0, none⟩) 1 1) 1 (intCells [rk]) rfl (SlAt.of_block 1 1 H8.out.2.2.2.2 rfl (by decide)) (one_ints _) (by omega) (by omega) (by omega) ?_))
        intro v9 W9 hown9 hgr9 hcase9
        obtain ⟨o9, c9, rfl⟩ := owns_slice hown9
        rw [← intCells_app, ← HSU.out.2.2] at hown9
        have ho9 : W9.ownsRow W0.heap.size 3 1 (.slice o3 (k + 1) c3) (k + 1) (intCells (quosTo of ns (k + 1))) := owns_keep H8.out.1 fun g hg => hgr9.block g (owns_ge H8.out.1 g hg).2 (fun e => H8.out.2.1 g hg e.symm)
        have hds9 : ∀ g, (Value.slice o3 (k + 1) c3).ownBlock = some g → (Value.slice o9 (k + 1) c9).ownBlock ≠ some g := fun g hg hr => by
          rcases hcase9 with e | e
          · rw [e] at hr
            exact H8.out.2.1 g hg hr
          · rw [e] at hr
            have h1 := (owns_ge H8.out.1 g hg).2
            have h2 : W8.heap.size = g := by simpa using hr
            omega
        have hB9 : Below W0.heap.size W0 W9 := Below.grown H8.out.2.2.2.1 hgr9 (by have := H8.out.2.2.2.1.size; omega) (fun g e => (owns_ge H8.out.2.2.1 g e).1)
        have H9 := Lib.hid (And.intro ho9 (And.intro hown9 (And.intro hds9 hB9)))
        clear ho9 hown9 hds9 hB9 hgr9 hcase9
        go_wp2_with fail
        go_roundw
        case rel => exact ⟨k + 1, by omega, by go_num, by rw [HSU.out.1]; first | rfl | (congr 1; omega), o3, c3, o9, c9, rfl, rfl, H9.out.1, H9.out.2.1, H9.out.2.2.1, H9.out.2.2.2⟩
        case measure => simp [intOf]; omega
      | some ga =>
        obtain ⟨gb, go_, gs⟩ := ga
        have hge := owns_ge how gb rfl
        have hgl : gb < wr.heap.size := hge.2
        have hgw : W0.heap.size ≤ gb := hge.1
        clear how hrw hdis hB hge
        go_upto_region 7 with (fail)
        refine wp_region_rg 11 [gb] (some 5) [(4, Spec.slice wr.heap.size #[iv qk] 3 1), (5, ⟨fun _ v => ∃ o c, v = .slice o (k + 1) c, fun _ v Wx => Wx.ownsRow W0.heap.size 3 1 v (k + 1) (intCells (quosTo of ns (k + 1))) ∧ ∀ g, v.ownBlock = some g → (Value.slice ro k cr).ownBlock ≠ some g⟩), (10, Spec.slice wr.heap.size #[iv rk] 3 1)] (by as_aux_lemma => kernel_rfl) (by as_aux_lemma => kernel_rfl) ?_
        simp only [List.take_succ_cons, List.take_zero, List.drop_succ_cons, List.drop_zero]
        repeat (first | (refine tree_det (by rfl) _ (by rfl) (fun W hW => by go_simp; (try simp (disch := omega) only [IntWalk.i64_in]); try rfl) ?_; simp only [Act.put, List.setIfInBounds_toArray, List.set_cons_succ, List.set_cons_zero]) | (refine tree_skip (by rfl) (by rfl) ?_; simp only [Act.put, List.setIfInBounds_toArray, List.set_cons_succ, List.set_cons_zero]))
        (try rw [htd])
        refine tree_slice wr.heap.size _ _ 1 (by rfl) (Nat.le_refl _) (by rfl) (by simpa using hgl) (by simp) (fun W hW => by go_simp; try rfl) (fun b2 => ?_)
        simp only [Act.put, List.setIfInBounds_toArray, List.set_cons_succ, List.set_cons_zero]
        refine tree_some _ (by rfl) (by rfl) (by exact ⟨.slice none (k + 1) 0, none, 0, rfl⟩) (fun Wa hE hF => ?_) (fun v Wa Wb ho hE => ?_) (fun v hv => ?_)
        · have hE' : Ext [] wr Wa := hE
          obtain ⟨b', hb', hge, hcc⟩ := hF _ (List.Mem.head _) (by kernel_rfl)
          cases hb'
          have hown6 := owns_ext (Ms := []) HK.out.1 hE' (by simp)
          have hrst := owns_ext (Ms := []) HK.out.2.1 hE' (by simp)
          have hsrc : SlAt 1 Wa (.slice (some ⟨b2, 0, none⟩) 1 1) 1 (intCells [qk]) := SlAt.of_block 1 1 hcc rfl (by decide)
          refine Does.mono (does_append_at tInts (by rfl) (by rfl) hown6 (by rfl) hsrc (one_ints _) (by omega) (by omega) (by have := hE'.size; omega)) ?_
          rintro v' Wc ⟨ho, hgr, hcase⟩
          refine ⟨owns_slice ho, ⟨?_, fun g hg hr => ?_⟩, ⟨hgr.os, hgr.tape, hgr.output, hgr.size, fun b hb hn => hgr.block b hb (fun e => by first | (simp [Value.ownBlock] at e; done) | (simp [Value.ownBlock] at e; exact hn (by simp [e])))⟩⟩
          · rw [HSU.out.2.1, intCells_app]
            exact ho
          · rcases hcase with e | e
            · rw [e] at hg
              exact HK.out.2.2.1 g hg hr
            · rw [e] at hg
              have h1 := (owns_ge hrst g hr).2
              have h2 : Wa.heap.size = g := by simpa using hg
              omega
        · exact ⟨owns_ext (Ms := []) ho.1 hE (by simp), ho.2⟩
        obtain ⟨o3, c3, rfl⟩ := hv
        simp only [Act.put, List.setIfInBounds_toArray, List.set_cons_succ, List.set_cons_zero]
        repeat (first | (refine tree_det (by rfl) _ (by rfl) (fun W hW => by go_simp; (try simp (disch := omega) only [IntWalk.i64_in]); try rfl) ?_; simp only [Act.put, List.setIfInBounds_toArray, List.set_cons_succ, List.set_cons_zero]) | (refine tree_skip (by rfl) (by rfl) ?_; simp only [Act.put, List.setIfInBounds_toArray, List.set_cons_succ, List.set_cons_zero]))
        (try rw [htm])
        refine tree_slice wr.heap.size _ _ 1 (by rfl) (Nat.le_refl _) (by rfl) (by simpa using hgl) (by simp) (fun W hW => by go_simp; try rfl) (fun b8 => ?_)
        simp only [Act.put, List.setIfInBounds_toArray, List.set_cons_succ, List.set_cons_zero]
        (try simp only [])
        intro W8 hE hF
        have hE' : Ext [gb] wr W8 := hE
        obtain ⟨b8', hb8, hge8, hcc8⟩ := hF _ (List.Mem.head _)
        cases hb8
        obtain ⟨ho8, hds8⟩ := hF _ (List.Mem.tail _ (List.Mem.head _))
        have hr8 : W8.ownsRow W0.heap.size 3 1 (.slice ro k cr) k (intCells (remsTo of ns k)) := owns_ext' HK.out.2.1 hE' fun x hx e => by
          first
          | (simp at hx; done)
          | (have hxg : x = gb := by simpa using hx
             subst hxg
             exact HK.out.2.2.1 x rfl e)
        have hB8 : Below W0.heap.size W0 W8 := ⟨hE'.os.trans HK.out.2.2.2.os, hE'.tape.trans HK.out.2.2.2.tape, hE'.output.trans HK.out.2.2.2.output, Nat.le_trans HK.out.2.2.2.size hE'.size, fun b hb => (hE'.block b (by have := HK.out.2.2.2.size; omega) (by simp <;> omega)).trans (HK.out.2.2.2.block b hb)⟩
        have hz8 := hE'.size
        have H8 := Lib.hid (And.intro ho8 (And.intro hds8 (And.intro hr8 (And.intro hB8 hcc8))))
        clear hE hF hE' ho8 hds8 hr8 hB8 hcc8
        go_wp2_with (at_builtin; go_loud (refine wpList_append_at rfl _ _ tInts rfl W0.heap.size (.slice ro k cr) k (intCells (remsTo of ns k)) rfl H8.out.2.2.1 (.slice (some ⟨b8, 0, none⟩) 1 1) 1 (intCells [rk]) rfl (SlAt.of_block 1 1 H8.out.2.2.2.2 rfl (by decide)) (one_ints _) (by omega) (by omega) (by omega) ?_))
        intro v9 W9 hown9 hgr9 hcase9
        obtain ⟨o9, c9, rfl⟩ := owns_slice hown9
        rw [← intCells_app, ← HSU.out.2.2] at hown9
        have ho9 : W9.ownsRow W0.heap.size 3 1 (.slice o3 (k + 1) c3) (k + 1) (intCells (quosTo of ns (k + 1))) := owns_keep H8.out.1 fun g hg => hgr9.block g (owns_ge H8.out.1 g hg).2 (fun e => H8.out.2.1 g hg e.symm)
        have hds9 : ∀ g, (Value.slice o3 (k + 1) c3).ownBlock = some g → (Value.slice o9 (k + 1) c9).ownBlock ≠ some g := fun g hg hr => by
          rcases hcase9 with e | e
          · rw [e] at hr
            exact H8.out.2.1 g hg hr
          · rw [e] at hr
            have h1 := (owns_ge H8.out.1 g hg).2
            have h2 : W8.heap.size = g := by simpa using hr
            omega
        have hB9 : Below W0.heap.size W0 W9 := Below.grown H8.out.2.2.2.1 hgr9 (by have := H8.out.2.2.2.1.size; omega) (fun g e => (owns_ge H8.out.2.2.1 g e).1)
        have H9 := Lib.hid (And.intro ho9 (And.intro hown9 (And.intro hds9 hB9)))
        clear ho9 hown9 hds9 hB9 hgr9 hcase9
        go_wp2_with fail
        go_roundw
        case rel => exact ⟨k + 1, by omega, by go_num, by rw [HSU.out.1]; first | rfl | (congr 1; omega), o3, c3, o9, c9, rfl, rfl, H9.out.1, H9.out.2.1, H9.out.2.2.1, H9.out.2.2.2⟩
        case measure => simp [intOf]; omega
    · have hkn : k = n := by omega
      have hnl : ¬ (k : Int) < n := by omega
      subst hkn
      rw [HQ.out.2.2.1]
      obtain ⟨_, ⟨_, h2⟩ | ⟨gO, capO, curO, hvO, hbO, _⟩⟩ := id how
      · omega
      obtain ⟨_, ⟨_, h2⟩ | ⟨gR, capR, curR, hvR, hbR, _⟩⟩ := id hrw
      · omega
      cases hvO
      cases hvR
      have hOR : gO ≠ gR := fun e => hdis gO rfl (by rw [e]; rfl)
      have hRO : gR ≠ gO := fun e => hOR e.symm
      have HK := Lib.hid (And.intro how (And.intro hrw hB))
      clear how hrw hdis hB
      go_wp2_with fail
      go_loopw [6] (fun v6 wq => ∃ q : Nat, q ≤ Lf ∧ v6 = .int .i64 ((Lf : Int) - q) ∧ wq.ownsRow W0.heap.size 3 1 (.slice (some ⟨gO, 0, none⟩) k co) k (intCells (payTo (quosTo of ns k) (remsTo of ns k) q).1) ∧ wq.ownsRow W0.heap.size 3 1 (.slice (some ⟨gR, 0, none⟩) k cr) k (intCells (payTo (quosTo of ns k) (remsTo of ns k) q).2) ∧ Below W0.heap.size W0 wq) (fun v6 _ => (intOf v6).toNat)
      case atStart => exact ⟨0, Nat.zero_le _, by simp, HK.out.1, HK.out.2.1, HK.out.2.2⟩
      case round =>
        obtain ⟨q, hq, rfl, hoO, hoR, hB⟩ := hrel
        by_cases hlq : q < Lf
        case neg =>
          have hqe : q = Lf := by omega
          subst hqe
          have hnz : ¬ (0 : Int) < (q : Int) - q := by omega
          have hng : ¬ ((q : Int) - q) > 0 := by omega
          have HZ := Lib.hid (And.intro hoO hB)
          have hpl := (payTo_len (quosTo of ns k) (remsTo of ns k) q).1
          rw [quosTo_len] at hpl
          clear hoO hoR hB
          go_wp2_with fail
          go_returns
          exact ⟨.slice (some ⟨gO, 0, none⟩) k co, by simp, by rw [hpl]; exact owns_base HZ.out.1 HB0.out.size, bgo HB0.out HZ.out.2⟩
        have hgt : ((Lf : Int) - q) > 0 := by omega
        have hgt0 : (0 : Int) < (Lf : Int) - q := by omega
        have hlo := (payTo_len (quosTo of ns k) (remsTo of ns k) q).1
        have hlr := (payTo_len (quosTo of ns k) (remsTo of ns k) q).2
        rw [quosTo_len] at hlo
        rw [remsTo_len] at hlr
        obtain ⟨b1, b2⟩ := HQ.out.2.2.2 q
        have hsucc : payTo (quosTo of ns k) (remsTo of ns k) (q + 1) = ((payTo (quosTo of ns k) (remsTo of ns k) q).1.set (bestL (payTo (quosTo of ns k) (remsTo of ns k) q).2) ((payTo (quosTo of ns k) (remsTo of ns k) q).1.getD (bestL (payTo (quosTo of ns k) (remsTo of ns k) q).2) 0 + 1), (payTo (quosTo of ns k) (remsTo of ns k) q).2.set (bestL (payTo (quosTo of ns k) (remsTo of ns k) q).2) (-1)) := rfl
        have HSC := Lib.hid hsucc
        clear hsucc
        generalize (payTo (quosTo of ns k) (remsTo of ns k) q).1 = out at *
        generalize (payTo (quosTo of ns k) (remsTo of ns k) q).2 = rest at *
        have HW := Lib.hid (And.intro hoO (And.intro hoR hB))
        have hbl : bestL rest = bestTo rest (k - 1) := by unfold bestL; rw [hlr]
        clear hoO hoR hB
        go_wp2_with fail
        go_loopw [11, 12] (fun v11 u wz => ∃ j : Nat, 1 ≤ j ∧ j ≤ k ∧ u = .int .i64 j ∧ v11 = .int .i64 ((bestTo rest (j - 1) : Nat) : Int) ∧ Below wr.heap.size wr wz) (fun _ u _ => k - (intOf u).toNat)
        case atStart => exact ⟨1, Nat.le_refl _, hn1, rfl, rfl, Below.refl _ _⟩
        case round =>
          obtain ⟨j, hj1, hjk, rfl, rfl, hB⟩ := hrel
          have hoO := owns_keep HW.out.1 fun g hg => hB.block g (owns_ge HW.out.1 g hg).2
          have hoR := owns_keep HW.out.2.1 fun g hg => hB.block g (owns_ge HW.out.2.1 g hg).2
          obtain ⟨i, rfl⟩ : ∃ i, j = i + 1 := ⟨j - 1, by omega⟩
          rw [Nat.add_sub_cancel]
          have hble := bestTo_lt rest i
          have hbs : bestTo rest (i + 1) = if rest.getD (bestTo rest i) 0 < rest.getD (i + 1) 0 then i + 1 else bestTo rest i := rfl
          have HB := Lib.hid hB
          obtain ⟨B, hBe⟩ : ∃ B, bestTo rest i = B := ⟨_, rfl⟩
          rw [hBe] at hbs hble ⊢
          by_cases hlj : i + 1 < k
          · have h1 : i + 1 < rest.length := by omega
            have h2 : B < rest.length := by omega
            obtain ⟨g1, f1, e1, r1, d1⟩ := IntsAt.cell (SlAt.of_owns hoR) h1
            obtain ⟨g2, f2, e2, r2, d2⟩ := IntsAt.cell (SlAt.of_owns hoR) h2
            have k1 : rest.getD (i + 1) 0 = rest[i + 1] := by simp [List.getD, h1]
            have k2 : rest.getD B 0 = rest[B] := by simp [List.getD, h2]
            rw [k1, k2] at hbs
            generalize rest[i + 1] = x at *
            generalize rest[B] = y at *
            have hjI : ((i + 1 : Nat) : Int) < k := by omega
            have hBI : (B : Int) < k := by omega
            cases e1
            cases e2
            rw [Nat.zero_add] at d1 d2
            have HBS := Lib.hid hbs
            clear hoO hoR hB hBe k1 k2 h1 h2 hbs
            by_cases hyx : y < x
            · have hyxg : x > y := hyx
              have HV := Lib.hid (show bestTo rest (i + 1 + 1 - 1) = i + 1 from by rw [Nat.add_sub_cancel, HBS.out, if_pos hyx])
              go_wp2_with fail
              go_region
              all_goals go_wp2_with fail
              all_goals go_roundw
              case rel => exact ⟨i + 1 + 1, by omega, by omega, by go_num, by rw [HV.out], bgoDrew HB.out⟩
              case measure => simp [intOf]; omega
            · have hyxg : ¬ x > y := hyx
              have HV := Lib.hid (show bestTo rest (i + 1 + 1 - 1) = B from by rw [Nat.add_sub_cancel, HBS.out, if_neg hyx])
              go_wp2_with fail
              go_region
              all_goals go_wp2_with fail
              all_goals go_roundw
              case rel => exact ⟨i + 1 + 1, by omega, by omega, by go_num, by rw [HV.out], bgoDrew HB.out⟩
              case measure => simp [intOf]; omega
          · have hje : i + 1 = k := by omega
            have hjn : ¬ ((i + 1 : Nat) : Int) < k := by omega
            have hBk : B < k := by omega
            have hBL : bestL rest = B := by rw [hbl, ← hje, Nat.add_sub_cancel]; exact hBe
            obtain ⟨s1, s2, s3, s4, s5⟩ := owns_setI (y := out.getD B 0 + 1) hoO hBk
            obtain ⟨t1, t2, t3, t4, t5⟩ := owns_setI (y := -1) hoR hBk
            have hxb : 0 ≤ out.getD B 0 ∧ out.getD B 0 ≤ 10000 + q := by
              rw [show out.getD B 0 = out[B]'(by omega) from by simp [List.getD, show B < out.length by omega]]
              exact b1 _ (List.getElem_mem _)
            have hO' : ((wr.setCell ⟨gO, B, none⟩ (iv (out.getD B 0 + 1))).setCell ⟨gR, B, none⟩ (iv (-1))).ownsRow W0.heap.size 3 1 (.slice (some ⟨gO, 0, none⟩) k co) k (intCells (out.set B (out.getD B 0 + 1))) := owns_keep s1 fun g hg => Below.heap_setCell _ _ _ _ (by
              have : gO = g := by simpa [Value.ownBlock] using hg
              subst this
              exact hOR)
            have hR' : ((wr.setCell ⟨gO, B, none⟩ (iv (out.getD B 0 + 1))).setCell ⟨gR, B, none⟩ (iv (-1))).ownsRow W0.heap.size 3 1 (.slice (some ⟨gR, 0, none⟩) k cr) k (intCells (rest.set B (-1))) := (owns_setI (y := -1) (owns_keep hoR fun g hg => Below.heap_setCell _ _ _ _ (by
              have : gR = g := by simpa [Value.ownBlock] using hg
              subst this
              exact hRO)) hBk).1
            have hB' : Below W0.heap.size W0 ((wr.setCell ⟨gO, B, none⟩ (iv (out.getD B 0 + 1))).setCell ⟨gR, B, none⟩ (iv (-1))) := bgoSet (bgoSet (bgo HW.out.2.2 hB) s5 _) t5 _
            have HZ := Lib.hid (And.intro hO' (And.intro hR' (And.intro hB' hBL)))
            have hBI : (B : Int) < k := by omega
            have hqL : (q : Int) < Lf := by omega
            clear hoO hoR hB hBe hbs s1 t1 hO' hR' hB' hBL
            obtain ⟨xo, hxo⟩ : ∃ xo, out.getD B 0 = xo := ⟨_, rfl⟩
            rw [hxo] at s2 hxb HZ
            have HXO := Lib.hid hxo
            clear hxo hbl
            go_wp2_with fail
            go_roundw
            case rel => exact ⟨q + 1, by omega, by first | go_num | (congr 1; omega), by rw [HSC.out, HZ.out.2.2.2, HXO.out]; exact HZ.out.1, by rw [HSC.out, HZ.out.2.2.2]; exact HZ.out.2.1, HZ.out.2.2.1⟩
            case measure => simp [intOf]; omega
end Go.Proofs.YtdjgikcnmokjkaaGreat

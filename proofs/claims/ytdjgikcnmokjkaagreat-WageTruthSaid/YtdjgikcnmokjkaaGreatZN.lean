/-
  The reference of chapter 9: Bounds; the law's sure.
-/
import Derived.WalkKit
import Derived.WalkLawsBesides
import Derived.WalkSpells
import Derived.Outline
import Derived.Handy
import Derived.KernelRfl
import Derived.Lib.Hide
import Derived.BigRegion
import Derived.Deep.Cut
import Derived.Test.YtdjgikcnmokjkaaGreatZI
import Derived.Test.YtdjgikcnmokjkaaGreatKF
namespace Go.Proofs.YtdjgikcnmokjkaaGreat
open Go.RowKit Go.RG Go.SL Go.Shelf Cou Go.TB
set_option maxHeartbeats 400000
set_option maxRecDepth 10000

theorem widL_at_bd {xs : List Int} (h : ∀ x ∈ xs, -1000000 ≤ x ∧ x ≤ 1000000) : (-1099511627776 ≤ (widL emptyR xs).1 ∧ (widL emptyR xs).1 ≤ 1099511627776) ∧ (-1099511627776 ≤ (widL emptyR xs).2 ∧ (widL emptyR xs).2 ≤ 1099511627776) := by
  have := widL_bd (B := 1000000) h (by omega)
  exact ⟨⟨this.1, this.2.1⟩, this.2.2⟩

theorem gany {α β : Type} {Q : α → β → World → Prop} {e : α} {a : β} {W : World} (h : ∀ X, X = W → Q e a X) : Q e a W := h W rfl
/-- What the ranges hold after some rows. -/
structure BdAt (W : World) (ba bb bc : Nat) (A B C : Rng) : Prop where
  a : W.heap[ba]? = some (.cells #[iv A.1, iv A.2] 27 (0, 0))
  b : W.heap[bb]? = some (.cells #[iv B.1, iv B.2] 27 (0, 0))
  c : W.heap[bc]? = some (.cells #[iv C.1, iv C.2] 27 (0, 0))
theorem BdAt.below {W W' : World} {ba bb bc : Nat} {A B C : Rng} (h : BdAt W ba bb bc A B C) (hb : Below W.heap.size W W') : BdAt W' ba bb bc A B C :=
  ⟨last_block h.a W' hb, last_block h.b W' hb, last_block h.c W' hb⟩
theorem set_two {w : World} {b : Nat} {t : TypeId} {fr : Nat × Nat} {a0 a1 : Value} (h : w.heap[b]? = some (.cells #[a0, a1] t fr)) (y0 y1 : Value) : ((w.setCell ⟨b, 0, none⟩ y0).setCell ⟨b, 1, none⟩ y1).heap[b]? = some (.cells #[y0, y1] t fr) := by
  have k := set_block (o := 1) (set_block (o := 0) h y0) y1
  simpa using k
theorem two_other {w : World} {b g : Nat} (hg : g ≠ b) (y0 y1 : Value) : ((w.setCell ⟨b, 0, none⟩ y0).setCell ⟨b, 1, none⟩ y1).heap[g]? = w.heap[g]? := (Below.heap_setCell _ _ _ _ hg).trans (Below.heap_setCell _ _ _ _ hg)

/-- The rows of the reference: the truths with which there is one of the ledger. -/
theorem rowsE {l : LedgerD} (hS : SoundL l) {es : List LE} (h : es.map (·.2) = rowsL l) {k : Nat} (hk : k < es.length) : es[k].2 ∈ truthsF l.field [] ∧ canPay l [] (duesV l.rate es[k].2) = true :=
  (mem_rowsL hS).1 (by rw [← h]; exact List.mem_map.2 ⟨_, List.getElem_mem hk, rfl⟩)

theorem payL_bd {l : LedgerD} {t : List Int} {wd : Nat} (hb : ∀ x ∈ dueV l t, 0 ≤ x ∧ x ≤ 350) : ∀ x ∈ payL l (dueV l t) wd, 0 ≤ x ∧ x ≤ 350 := by
  intro x hx
  unfold payL payTo9 at hx
  obtain ⟨p, hp, rfl⟩ := List.mem_map.1 hx
  have := List.mem_range.1 (List.mem_filter.1 hp).1
  have hd : (dueV l t).getD wd 0 ≤ 350 := by
    by_cases h : wd < (dueV l t).length
    · rw [show (dueV l t).getD wd 0 = (dueV l t)[wd] from by simp [List.getD, h]]
      exact (hb _ (List.getElem_mem h)).2
    · rw [show (dueV l t).getD wd 0 = 0 from by simp [List.getD, h]]
      omega
  omega

set_option maxHeartbeats 8000000 in
theorem zBounds_any {l : LedgerD} (hS : SoundL l) (tv nv ev : Value) (es : List LE) (wd : Nat) (w : World) (hn : TriplesAt w nv l.notes) (he : ListsAt w ev es) (hes : es.map (·.2) = rowsL l) (hwd : wd < l.field.weeders.toNat) :
    Calls Tryz.prog 57 #[lv l tv nv, ev, iv wd] w (PV (.tuple #[rv (widL emptyR (bndAs l (rowsL l) wd)), rv (widL emptyR (bndBs l (rowsL l) wd)), rv (widL emptyR (bndCs l (rowsL l) wd))]) w) := by
  obtain ⟨on, cn, rfl⟩ := hn.open
  obtain ⟨eo, ec, rfl⟩ := he.1.open
  have hel := he.1.len
  have HX := Lib.hid (And.intro hn he)
  have HES := Lib.hid hes
  have HS := Lib.hid hS
  have hF := soundF_of hS.field
  have hwd3 : wd < 3 := by have := hF.weed1; omega
  obtain ⟨n, hnw⟩ : ∃ n, l.field.weeders.toNat = n := ⟨_, rfl⟩
  have HDU := Lib.hid (fun (W : World) (tvv : Value) (t : List Int) (ht : t ∈ truthsF l.field []) (h : IntsAt W tvv t) => show Calls Tryz.prog 59 #[lv l tv (.slice on l.notes.length cn), tvv] W (fun e w' => ∃ u, e = .returned u ∧ w'.ownsRow W.heap.size 3 1 u n (intCells (dueV l t)) ∧ Below W.heap.size W w') from by
    have := zDues_any l tv (.slice on l.notes.length cn) tvv t W h (by have := row_len hS ht; omega) (by have := hF.weed0; omega) hF.weed1 (by have := hS.rate; omega) (by have := hS.rate; omega)
    rw [duesZ_eq hF (truthsF_len ht), hnw] at this
    exact this)
  have HPA := Lib.hid (fun (W : World) (tvv : Value) (t : List Int) (ht : t ∈ truthsF l.field []) (h1 : TriplesAt W (.slice on l.notes.length cn) l.notes) (h : IntsAt W tvv t) => Payable_any hS tv (.slice on l.notes.length cn) tvv t wd W h1 h ht hwd)
  have HDL := Lib.hid (fun (t : List Int) => show (dueV l t).length = n from by rw [dueV_length hS, hnw])
  have HDB := Lib.hid (fun (t : List Int) (ht : t ∈ truthsF l.field []) => dueV_bd hS (row_len hS ht))
  have hwn : wd < n := by omega
  rw [← hes]
  clear hn he hes hS hF hwd hnw
  go_enter Tryz.func57, Tryz.ntmps57
  go_upto_region 1 with (fail)
  refine gworld fun W0 hW0 => ?_
  have hB0 : Below w.heap.size w W0 := by rw [hW0]; exact (by repeat (first | exact Below.refl _ _ | assumption | refine bgo ?_ (by assumption) | refine bgoAlloc ?_ _ | refine bgoDrew ?_ | refine bgoSet ?_ (by simp; omega) _))
  have hk0 : W0.heap[w.heap.size]? = some (.cells (lcells l tv (.slice on l.notes.length cn)) 30 (0, 0)) := by rw [hW0]; exact (Below.heap_alloc _ _ _ (by first | omega | (simp; done) | (simp; omega))).trans ((Below.heap_alloc _ _ _ (by first | omega | (simp; done) | (simp; omega))).trans ((Below.heap_alloc _ _ _ (by first | omega | (simp; done) | (simp; omega))).trans (heap_new0 _ _)))
  have hr1 : W0.heap[w.heap.size + 1]? = some (.cells #[iv 0, iv 0] 27 (0, 0)) := by rw [hW0]; exact (Below.heap_alloc _ _ _ (by first | omega | (simp; done) | (simp; omega))).trans ((Below.heap_alloc _ _ _ (by first | omega | (simp; done) | (simp; omega))).trans (heap_new1 _ _ _))
  have hr2 : W0.heap[w.heap.size + 1 + 1]? = some (.cells #[iv 0, iv 0] 27 (0, 0)) := by rw [hW0]; exact (Below.heap_alloc _ _ _ (by first | omega | (simp; done) | (simp; omega))).trans (heap_new2 _ _ _ _)
  have hr3 : W0.heap[w.heap.size + 1 + 1 + 1]? = some (.cells #[iv 0, iv 0] 27 (0, 0)) := by rw [hW0]; exact heap_new3 _ _ _ _ _
  have HK0 := Lib.hid (((Keeps.one hB0 hk0).more (T := fun W => W.heap[w.heap.size + 1]? = some (.cells #[iv 0, iv 0] 27 (0, 0)) ∧ W.heap[w.heap.size + 1 + 1]? = some (.cells #[iv 0, iv 0] 27 (0, 0)) ∧ W.heap[w.heap.size + 1 + 1 + 1]? = some (.cells #[iv 0, iv 0] 27 (0, 0))) ⟨hr1, hr2, hr3⟩ (fun W' h => ⟨last_block hr1 W' h, last_block hr2 W' h, last_block hr3 W' h⟩)))
  have hsz0 := (cells_of_block hr3).2.2
  clear hW0 hB0 hk0 hr1 hr2 hr3
  go_wp2_with fail
  refine (zEmpty_any W0).mono ?_
  rintro e W1 ⟨rfl, hb⟩
  have HK1 := Lib.hid (HK0.out.next hb)
  have hsz1 := hb.size
  clear hb
  go_wp2_with fail
  refine (zEmpty_any W1).mono ?_
  rintro e W2 ⟨rfl, hb⟩
  have HK2 := Lib.hid (HK1.out.next hb)
  have hsz2 := hb.size
  clear hb
  go_wp2_with fail
  refine (zEmpty_any W2).mono ?_
  rintro e W3 ⟨rfl, hb⟩
  have HK3 := Lib.hid (HK2.out.next hb)
  have hsz3 := hb.size
  clear hb
  go_upto_region 2 with (fail)
  refine gworld fun W4 hW4 => ?_
  obtain ⟨ba, hba⟩ : ∃ ba, W3.heap.size = ba := ⟨_, rfl⟩
  have hbd : BdAt W4 ba (ba + 1) (ba + 1 + 1) emptyR emptyR emptyR := by
    rw [hW4, ← hba]
    refine ⟨?_, ?_, ?_⟩
    · exact (Below.heap_alloc _ _ _ (by first | omega | (simp; done) | (simp; omega))).trans ((Below.heap_alloc _ _ _ (by first | omega | (simp; done) | (simp; omega))).trans (heap_new0 _ _))
    · exact (Below.heap_alloc _ _ _ (by first | omega | (simp; done) | (simp; omega))).trans (heap_new1 _ _ _)
    · exact heap_new2 _ _ _ _
  have hB4 : Below W3.heap.size W3 W4 := by rw [hW4]; exact (by repeat (first | exact Below.refl _ _ | assumption | refine bgo ?_ (by assumption) | refine bgoAlloc ?_ _ | refine bgoDrew ?_ | refine bgoSet ?_ (by simp; omega) _))
  rw [hba]
  obtain ⟨bb, hbb⟩ : ∃ bb, ba + 1 = bb := ⟨_, rfl⟩
  obtain ⟨bc, hbc⟩ : ∃ bc, bb + 1 = bc := ⟨_, rfl⟩
  rw [hbb, hbc] at hbd
  rw [hbb, hbc]
  have n1 : ¬ ba = bb := by omega
  have n2 : ¬ ba = bc := by omega
  have n3 : ¬ bb = bc := by omega
  have n4 : ¬ bb = ba := by omega
  have n5 : ¬ bc = ba := by omega
  have n6 : ¬ bc = bb := by omega
  have n7 : W3.heap.size ≤ ba := by omega
  have n8 : W3.heap.size ≤ bb := by omega
  have n9 : W3.heap.size ≤ bc := by omega
  have H4 := Lib.hid (And.intro hbd hB4)
  clear hW4 hbd hB4 hba hbb hbc
  go_wp2_with fail
  go_loopw [12] (fun u wr => ∃ k : Nat, k ≤ es.length ∧ u = .int .i64 k ∧ BdAt wr ba bb bc (widL emptyR (bndAs l ((es.map (·.2)).take k) wd)) (widL emptyR (bndBs l ((es.map (·.2)).take k) wd)) (widL emptyR (bndCs l ((es.map (·.2)).take k) wd)) ∧ Below W3.heap.size W3 wr) (fun u _ => es.length - (intOf u).toNat)
  case atStart => exact ⟨0, Nat.zero_le _, rfl, H4.out.1, H4.out.2⟩
  case round =>
    obtain ⟨k, hk, rfl, hbd, hB⟩ := hrel
    have HKR := Lib.hid (HK3.out.next hB)
    obtain ⟨c0, f0, l0'⟩ := cells_of_block HKR.out.blk.2
    by_cases hlt : k < es.length
    case neg =>
      have hkn : k = es.length := by omega
      have htk : (es.map (·.2)).take k = es.map (·.2) := by rw [hkn, List.take_of_length_le (by simp)]
      rw [htk] at hbd
      obtain ⟨A, hA⟩ : ∃ A, widL emptyR (bndAs l (es.map (·.2)) wd) = A := ⟨_, rfl⟩
      obtain ⟨B, hB9⟩ : ∃ B, widL emptyR (bndBs l (es.map (·.2)) wd) = B := ⟨_, rfl⟩
      obtain ⟨C, hC⟩ : ∃ C, widL emptyR (bndCs l (es.map (·.2)) wd) = C := ⟨_, rfl⟩
      rw [hA, hB9, hC] at hbd
      have HABC := Lib.hid (And.intro hA (And.intro hB9 hC))
      clear hA hB9 hC
      have hnl : ¬ (k : Int) < es.length := by omega
      obtain ⟨ca, fa, la⟩ := cells_of_block hbd.a
      obtain ⟨cb, fb, lb⟩ := cells_of_block hbd.b
      obtain ⟨cc, fc, lc⟩ := cells_of_block hbd.c
      obtain ⟨x1, y1, z1⟩ := cells_of_block HKR.out.blk.1.1
      obtain ⟨x2, y2, z2⟩ := cells_of_block HKR.out.blk.1.2.1
      obtain ⟨x3, y3, z3⟩ := cells_of_block HKR.out.blk.1.2.2
      clear hbd hB htk hkn
      obtain ⟨A0, A1⟩ := A
      obtain ⟨B0, B1⟩ := B
      obtain ⟨C0, C1⟩ := C
      go_wp2_with fail
      go_region
      refine gany fun X hX => ?_
      have hdr : ∀ Y : World, Y.drew.heap = Y.heap := fun _ => rfl
      have m1 : w.heap.size + 1 ≠ w.heap.size + 1 + 1 := by omega
      have m2 : w.heap.size + 1 ≠ w.heap.size + 1 + 1 + 1 := by omega
      have m3 : w.heap.size + 1 + 1 ≠ w.heap.size + 1 + 1 + 1 := by omega
      have k1 : X.heap[w.heap.size + 1]? = some (.cells #[iv A0, iv A1] 27 (0, 0)) := by
        rw [hX, hdr]
        exact (two_other m2 _ _).trans ((two_other m1 _ _).trans (set_two HKR.out.blk.1.1 _ _))
      have k2 : X.heap[w.heap.size + 1 + 1]? = some (.cells #[iv B0, iv B1] 27 (0, 0)) := by
        rw [hX, hdr]
        exact (two_other m3 _ _).trans (set_two ((two_other m1.symm _ _).trans HKR.out.blk.1.2.1) _ _)
      have k3 : X.heap[w.heap.size + 1 + 1 + 1]? = some (.cells #[iv C0, iv C1] 27 (0, 0)) := by
        rw [hX, hdr]
        exact set_two ((two_other m3.symm _ _).trans ((two_other m2.symm _ _).trans HKR.out.blk.1.2.2)) _ _
      have HBX := Lib.hid (show Below w.heap.size w X from by
        rw [hX]
        have q1 : w.heap.size ≤ w.heap.size + 1 := by omega
        have q2 : w.heap.size ≤ w.heap.size + 1 + 1 := by omega
        have q3 : w.heap.size ≤ w.heap.size + 1 + 1 + 1 := by omega
        exact bgoDrew (bgoSet (bgoSet (bgoSet (bgoSet (bgoSet (bgoSet HKR.out.below q1 _) q1 _) q2 _) q2 _) q3 _) q3 _))
      clear hX ca fa la cb fb lb cc fc lc x1 y1 z1 x2 y2 z2 x3 y3 z3 m1 m2 m3
      obtain ⟨x1, y1, z1⟩ := cells_of_block k1
      obtain ⟨x2, y2, z2⟩ := cells_of_block k2
      obtain ⟨x3, y3, z3⟩ := cells_of_block k3
      clear k1 k2 k3
      go_wp2_with fail
      refine bodyPost_ret (v := .tuple #[rv (A0, A1), rv (B0, B1), rv (C0, C1)]) ?_ rfl ⟨by rw [HABC.out.1, HABC.out.2.1, HABC.out.2.2], HBX.out⟩
      simp [results, Tryz.results57, go_sem, x1, x2, x3]
    have hBw := HKR.out.below
    have hmt := (rowsE HS.out HES.out hlt).1
    obtain ⟨b, off, hv, hb1, dw⟩ := ListsAt.cell HX.out.2.1 hlt
    have hia := HX.out.2.2 _ (List.getElem_mem hlt)
    have htk : (es.map (·.2)).take (k + 1) = (es.map (·.2)).take k ++ [es[k].2] := by
      rw [List.take_succ_eq_append_getElem (by simpa using hlt)]
      simp
    have HTK := Lib.hid (show bndAs l ((es.map (·.2)).take (k + 1)) wd = bndAs l ((es.map (·.2)).take k) wd ++ [(dueV l es[k].2).getD wd 0] ∧ bndBs l ((es.map (·.2)).take (k + 1)) wd = bndBs l ((es.map (·.2)).take k) wd ++ payL l (dueV l es[k].2) wd ∧ bndCs l ((es.map (·.2)).take (k + 1)) wd = bndCs l ((es.map (·.2)).take k) wd ++ (payL l (dueV l es[k].2) wd).map (fun p => (dueV l es[k].2).getD wd 0 - p) from by
      unfold bndAs bndBs bndCs
      rw [htk]
      simp [List.map_append, List.flatMap_append])
    generalize es[k] = ee at *
    obtain ⟨vt, t⟩ := ee
    simp only at hmt hia dw HTK
    obtain ⟨o3, c3, rfl⟩ := hia.open
    have HT := Lib.hid (And.intro hmt (And.intro hia (And.intro hbd hB)))
    have hltI : (k : Int) < es.length := by omega
    have HCW := Lib.hid (fun (W : World) (h : Below w.heap.size w W) => (World.cell?_of_block (a := ⟨b, off + k, none⟩) (h.block b hb1)).trans dw)
    have d0 := HCW.out wr hBw
    have hbw : b < wr.heap.size := by have := hBw.size; omega
    have HD := Lib.hid (fun (W : World) (h : Below wr.heap.size wr W) => HDU.out W (.slice o3 t.length c3) t hmt (hia.below (bgo hBw h) (Nat.le_refl _)))
    have hdl := HDL.out t
    have hdb := HDB.out t hmt
    have hpb := payL_bd (wd := wd) hdb
    have hwl : wd < (dueV l t).length := by omega
    have HPP := Lib.hid (fun (W : World) (h : Below w.heap.size w W) => HPA.out W (.slice o3 t.length c3) t hmt (HX.out.1.below h (Nat.le_refl _)) (hia.below h (Nat.le_refl _)))
    have gd : (dueV l t).getD wd 0 = (dueV l t)[wd] := by simp [List.getD, hwl]
    have hdd := hdb _ (List.getElem_mem hwl)
    rw [gd] at HTK
    generalize hds : dueV l t = ds at *
    generalize payL l ds wd = P at *
    obtain ⟨d, hd⟩ : ∃ d, ds[wd] = d := ⟨_, rfl⟩
    rw [hd] at HTK hdd
    have hdg : ds[wd]? = some d := by rw [List.getElem?_eq_getElem hwl, hd]
    have HDD := Lib.hid (And.intro hdg (And.intro hdl hpb))
    obtain ⟨As, hAs⟩ : ∃ As, widL emptyR (bndAs l ((es.map (·.2)).take k) wd) = As := ⟨_, rfl⟩
    obtain ⟨Bs, hBs⟩ : ∃ Bs, widL emptyR (bndBs l ((es.map (·.2)).take k) wd) = Bs := ⟨_, rfl⟩
    obtain ⟨Cs, hCs⟩ : ∃ Cs, widL emptyR (bndCs l ((es.map (·.2)).take k) wd) = Cs := ⟨_, rfl⟩
    have HTW := Lib.hid (show widL emptyR (bndAs l ((es.map (·.2)).take (k + 1)) wd) = wid As d ∧ widL emptyR (bndBs l ((es.map (·.2)).take (k + 1)) wd) = widL Bs P ∧ widL emptyR (bndCs l ((es.map (·.2)).take (k + 1)) wd) = widL Cs (P.map fun p => d - p) from by
      rw [HTK.out.1, HTK.out.2.1, HTK.out.2.2, widL_snoc, widL_app, widL_app, hAs, hBs, hCs]
      exact ⟨rfl, rfl, rfl⟩)
    rw [hAs, hBs, hCs] at HT
    cases hv
    clear hmt hia hbd hB hBw htk hdl hdb hpb gd hds hAs hBs hCs HTK hd hdg hwl dw
    go_wp2_with fail
    refine wp_region_rg 7 [] none [(5, ⟨fun _ v => ∃ o c, v = .slice o n c, fun _ v Wx => SlAt 1 Wx v n (intCells ds)⟩)] (by as_aux_lemma => kernel_rfl) (by as_aux_lemma => kernel_rfl) ?_
    simp only [List.take_succ_cons, List.take_zero, List.drop_succ_cons, List.drop_zero]
    repeat (first | (refine tree_det (by rfl) _ (by rfl) (fun W hW => by go_simp; (try simp (disch := omega) only [IntWalk.i64_in]); try rfl) ?_; simp only [Act.put, List.setIfInBounds_toArray, List.set_cons_succ, List.set_cons_zero]) | (refine tree_skip (by rfl) (by rfl) ?_; simp only [Act.put, List.setIfInBounds_toArray, List.set_cons_succ, List.set_cons_zero]))
    refine tree_some _ (by rfl) (by rfl) (by exact ⟨.slice none n 0, none, 0, rfl⟩) (fun Wa hE hF => ?_) (fun v Wa Wb ho hE => SlAt.below ho (Ext.below (show Ext [] Wa Wb from hE)) (Nat.le_refl _)) (fun v hv => ?_)
    · have hE' : Ext [] wr Wa := hE
      refine does_enter 59 #[lv l tv (.slice on l.notes.length cn), .slice o3 t.length c3] (by go_simp; try rfl) ?_
      refine (HD.out Wa hE'.below).mono ?_
      rintro e W' ⟨u, rfl, hu, hb⟩
      exact ⟨_, rfl, owns_slice hu, SlAt.of_owns hu, Ext.of_below hb⟩
    obtain ⟨od, cd, rfl⟩ := hv
    simp only [Act.put, List.setIfInBounds_toArray, List.set_cons_succ, List.set_cons_zero]
    repeat (first | (refine tree_det (by rfl) _ (by rfl) (fun W hW => by go_simp; (try simp (disch := omega) only [IntWalk.i64_in]); try rfl) ?_; simp only [Act.put, List.setIfInBounds_toArray, List.set_cons_succ, List.set_cons_zero]) | (refine tree_skip (by rfl) (by rfl) ?_; simp only [Act.put, List.setIfInBounds_toArray, List.set_cons_succ, List.set_cons_zero]))
    intro W5 hE hF
    have hE5 : Ext [] wr W5 := hE
    have hu5 : SlAt 1 W5 (.slice od n cd) n (intCells ds) := hF _ (List.Mem.head _)
    obtain ⟨g5, f5, hv5, hg5, d5⟩ := IntsAt.cell hu5 (show wd < ds.length by rw [HDD.out.2.1]; exact hwn)
    rw [show ds[wd]'(by rw [HDD.out.2.1]; exact hwn) = d from Option.some.inj ((List.getElem?_eq_getElem _).symm.trans HDD.out.1)] at d5
    cases hv5
    have hbd5 := HT.out.2.2.1.below hE5.below
    obtain ⟨ca, fa, la⟩ := cells_of_block hbd5.a
    have H5 := Lib.hid (And.intro hbd5 (And.intro (bgo HT.out.2.2.2 hE5.below) hE5.below))
    have hwnI : (wd : Int) < n := by omega
    clear hE hF hE5 hu5 hbd5 c0 f0
    go_wp2_with fail
    refine (zWider_any As d W5).mono ?_
    rintro e W6 ⟨rfl, hb⟩
    have hbd6 := H5.out.1.below hb
    obtain ⟨ca, fa, la⟩ := cells_of_block hbd6.a
    have H6 := Lib.hid (And.intro hbd6 (And.intro (bgo H5.out.2.1 hb) (bgo H5.out.2.2 hb)))
    clear hb hbd6 d5
    go_upto_region 7 with (fail)
    refine gworld fun W7 hW7 => ?_
    have hbd7 : BdAt W7 ba bb bc (wid As d) Bs Cs := by
      rw [hW7]
      exact ⟨set_two H6.out.1.a _ _, (two_other n4 _ _).trans H6.out.1.b, (two_other n5 _ _).trans H6.out.1.c⟩
    have hB7 : Below W3.heap.size W3 W7 := by rw [hW7]; exact bgoSet (bgoSet H6.out.2.1 n7 _) n7 _
    have hE7 : Ext [ba] wr W7 := by
      rw [hW7]
      exact (Ext.of_below (Ms := [ba]) H6.out.2.2).trans ((ext_set _ ⟨ba, 0, none⟩ _).trans (ext_set _ ⟨ba, 1, none⟩ _))
    have HK7 := Lib.hid (HK3.out.next hB7)
    obtain ⟨c0, f0, l0'⟩ := cells_of_block HK7.out.blk.2
    have H7 := Lib.hid (And.intro hbd7 (And.intro hB7 hE7))
    have d7 := HCW.out W7 HK7.out.below
    have hb7 : b < W7.heap.size := by have := HK7.out.below.size; omega
    clear hW7 hbd7 hB7 hE7 d0 ca fa la
    go_wp2_with fail
    refine wp_region_rg 7 [] none [(6, ⟨fun _ v => ∃ o c, v = .slice o P.length c, fun _ v Wx => Wx.ownsRow W7.heap.size 3 1 v P.length (intCells P)⟩)] (by as_aux_lemma => kernel_rfl) (by as_aux_lemma => kernel_rfl) ?_
    simp only [List.take_succ_cons, List.take_zero, List.drop_succ_cons, List.drop_zero]
    repeat (first | (refine tree_det (by rfl) _ (by rfl) (fun W hW => by go_simp; (try simp (disch := omega) only [IntWalk.i64_in]); try rfl) ?_; simp only [Act.put, List.setIfInBounds_toArray, List.set_cons_succ, List.set_cons_zero]) | (refine tree_skip (by rfl) (by rfl) ?_; simp only [Act.put, List.setIfInBounds_toArray, List.set_cons_succ, List.set_cons_zero]))
    refine tree_some _ (by rfl) (by rfl) (by exact ⟨.slice none P.length 0, none, 0, rfl⟩) (fun Wa hE hF => ?_) (fun v Wa Wb ho hE => owns_ext (Ms := []) ho hE (by simp)) (fun v hv => ?_)
    · have hE' : Ext [] W7 Wa := hE
      refine does_enter 60 #[lv l tv (.slice on l.notes.length cn), .slice o3 t.length c3, iv wd] (by go_simp; try rfl) ?_
      refine (HPP.out Wa (bgo HK7.out.below hE'.below)).mono ?_
      rintro e W' ⟨u, rfl, hu, hb⟩
      exact ⟨_, rfl, owns_slice hu, owns_base hu hE'.size, Ext.of_below hb⟩
    obtain ⟨op, cp, rfl⟩ := hv
    simp only [Act.put, List.setIfInBounds_toArray, List.set_cons_succ, List.set_cons_zero]
    repeat (first | (refine tree_det (by rfl) _ (by rfl) (fun W hW => by go_simp; (try simp (disch := omega) only [IntWalk.i64_in]); try rfl) ?_; simp only [Act.put, List.setIfInBounds_toArray, List.set_cons_succ, List.set_cons_zero]) | (refine tree_skip (by rfl) (by rfl) ?_; simp only [Act.put, List.setIfInBounds_toArray, List.set_cons_succ, List.set_cons_zero]))
    intro W8 hE hF
    have hE8 : Ext [] W7 W8 := hE
    have ho8 : W8.ownsRow W7.heap.size 3 1 (.slice op P.length cp) P.length (intCells P) := hF _ (List.Mem.head _)
    have hpl := (SlAt.of_owns ho8).len
    have H8 := Lib.hid (And.intro (H7.out.1.below hE8.below) (And.intro (bgo H7.out.2.1 hE8.below) (And.intro (SlAt.of_owns ho8) (show ∀ x ∈ [bb, bc], (Value.slice op P.length cp).ownBlock ≠ some x from fun x hx e => by
      have h1 := (owns_ge ho8 x e).1
      have h2 := (cells_of_block H7.out.1.b).2.2
      have h3 := (cells_of_block H7.out.1.c).2.2
      have : x = bb ∨ x = bc := by simpa using hx
      omega))))
    clear hE hF hE8 ho8 c0 f0 d7
    go_wp2_with fail
    go_loopw [15] (fun u wr => ∃ j : Nat, j ≤ P.length ∧ u = .int .i64 j ∧ BdAt wr ba bb bc (wid As d) (widL Bs (P.take j)) (widL Cs ((P.take j).map fun p => d - p)) ∧ Ext [bb, bc] W8 wr ∧ Below W3.heap.size W3 wr) (fun u _ => P.length - (intOf u).toNat)
    case atStart => exact ⟨0, Nat.zero_le _, rfl, H8.out.1, Ext.refl _ _, H8.out.2.1⟩
    case round =>
      obtain ⟨j, hj, rfl, hbd, hE, hB⟩ := hrel
      by_cases hltj : j < P.length
      case neg =>
        have hje : j = P.length := by omega
        have htkj : P.take j = P := by rw [hje, List.take_length]
        rw [htkj] at hbd
        have hnl : ¬ (j : Int) < P.length := by omega
        have HZ := Lib.hid (And.intro hbd hB)
        clear hbd hE hB htkj
        go_wp2_with fail
        go_roundw
        case rel => exact ⟨k + 1, by omega, by go_num, by rw [HTW.out.1, HTW.out.2.1, HTW.out.2.2]; exact HZ.out.1, HZ.out.2⟩
        case measure => simp [intOf]; omega
      have hltjI : (j : Int) < P.length := by omega
      obtain ⟨gp, fp, hvp, hgp, dp⟩ := IntsAt.cell (H8.out.2.2.1.ext hE H8.out.2.2.2) hltj
      have hpp := HDD.out.2.2 _ (List.getElem_mem hltj)
      have htj : P.take (j + 1) = P.take j ++ [P[j]] := List.take_succ_eq_append_getElem hltj
      have HTJ := Lib.hid (show widL Bs (P.take (j + 1)) = wid (widL Bs (P.take j)) P[j] ∧ widL Cs ((P.take (j + 1)).map fun p => d - p) = wid (widL Cs ((P.take j).map fun p => d - p)) (d - P[j]) from by
        rw [htj, List.map_append, widL_snoc]
        refine ⟨rfl, ?_⟩
        rw [List.map_cons, List.map_nil, widL_snoc])
      generalize P[j] = p at *
      obtain ⟨Bj, hBj⟩ : ∃ Bj, widL Bs (P.take j) = Bj := ⟨_, rfl⟩
      obtain ⟨Cj, hCj⟩ : ∃ Cj, widL Cs ((P.take j).map fun p => d - p) = Cj := ⟨_, rfl⟩
      rw [hBj, hCj] at hbd HTJ
      obtain ⟨cb, fb, lb⟩ := cells_of_block hbd.b
      obtain ⟨cc, fc, lc⟩ := cells_of_block hbd.c
      have HZ := Lib.hid (And.intro hbd (And.intro hE hB))
      cases hvp
      clear hbd hE hB htj hBj hCj
      go_wp2_with fail
      refine wp_region_rg 14 [] none [(5, Spec.val (rv (wid Bj p))), (13, Spec.val (rv (wid Cj (d - p))))] (by as_aux_lemma => kernel_rfl) (by as_aux_lemma => kernel_rfl) ?_
      simp only [List.take_succ_cons, List.take_zero, List.drop_succ_cons, List.drop_zero]
      repeat (first | (refine tree_det (by rfl) _ (by rfl) (fun W hW => by go_simp; (try simp (disch := omega) only [IntWalk.i64_in]); try rfl) ?_; simp only [Act.put, List.setIfInBounds_toArray, List.set_cons_succ, List.set_cons_zero]) | (refine tree_skip (by rfl) (by rfl) ?_; simp only [Act.put, List.setIfInBounds_toArray, List.set_cons_succ, List.set_cons_zero]))
      refine tree_val _ (by rfl) (by rfl) 29 #[rv Bj, iv p] (fun W hW => by go_simp; try rfl) (fun W hE hF => by exact zWider_any Bj p W) ?_
      simp only [Act.put, List.setIfInBounds_toArray, List.set_cons_succ, List.set_cons_zero]
      repeat (first | (refine tree_det (by rfl) _ (by rfl) (fun W hW => by go_simp; (try simp (disch := omega) only [IntWalk.i64_in]); try rfl) ?_; simp only [Act.put, List.setIfInBounds_toArray, List.set_cons_succ, List.set_cons_zero]) | (refine tree_skip (by rfl) (by rfl) ?_; simp only [Act.put, List.setIfInBounds_toArray, List.set_cons_succ, List.set_cons_zero]))
      refine tree_val _ (by rfl) (by rfl) 29 #[rv Cj, iv (d - p)] (fun W hW => by go_simp; try rfl) (fun W hE hF => by exact zWider_any Cj (d - p) W) ?_
      simp only [Act.put, List.setIfInBounds_toArray, List.set_cons_succ, List.set_cons_zero]
      repeat (first | (refine tree_det (by rfl) _ (by rfl) (fun W hW => by go_simp; (try simp (disch := omega) only [IntWalk.i64_in]); try rfl) ?_; simp only [Act.put, List.setIfInBounds_toArray, List.set_cons_succ, List.set_cons_zero]) | (refine tree_skip (by rfl) (by rfl) ?_; simp only [Act.put, List.setIfInBounds_toArray, List.set_cons_succ, List.set_cons_zero]))
      intro X hE hF
      have hEX : Ext [] wr X := hE
      have hbdX := HZ.out.1.below hEX.below
      have HXX := Lib.hid (And.intro hbdX (And.intro (HZ.out.2.1.trans (hEX.more (by simp))) (bgo HZ.out.2.2 hEX.below)))
      clear hE hF hEX cb fb lb cc fc lc dp hgp
      obtain ⟨cb, fb, lb⟩ := cells_of_block hbdX.b
      obtain ⟨cc, fc, lc⟩ := cells_of_block hbdX.c
      clear hbdX
      go_wp2_with fail
      go_roundw
      case rel =>
        refine ⟨j + 1, by omega, by go_num, ?_, ?_, bgoSet (bgoSet (bgoSet (bgoSet HXX.out.2.2 n8 _) n8 _) n9 _) n9 _⟩
        · rw [HTJ.out.1, HTJ.out.2]
          refine ⟨(two_other n2 _ _).trans ((two_other n1 _ _).trans HXX.out.1.a), (two_other n3 _ _).trans (set_two HXX.out.1.b _ _), set_two ((two_other n6 _ _).trans HXX.out.1.c) _ _⟩
        · refine HXX.out.2.1.trans ?_
          exact (((ext_set X ⟨bb, 0, none⟩ _).more (by simp)).trans ((ext_set _ ⟨bb, 1, none⟩ _).more (by simp))).trans (((ext_set _ ⟨bc, 0, none⟩ _).more (by simp)).trans ((ext_set _ ⟨bc, 1, none⟩ _).more (by simp)))
      case measure => simp [intOf]; omega

/-- The rows of all truths, or the error. -/
def SurePost (l : LedgerD) (w : World) (e : Ending) (w' : World) : Prop :=
  Below w.heap.size w w' ∧ ((askedErr l true ≠ 0 ∧ e = .returned (.tuple #[.slice none 0 0, iv (askedErr l true)])) ∨
    (askedErr l true = 0 ∧ ∃ v es, e = .returned (.tuple #[v, iv 0]) ∧ ListsAt w' v es ∧ es.map (·.2) = rowsL l ∧ es ≠ []))
theorem sure_any (l : LedgerD) (tv nv : Value) (w : World) (ht : TalliesAt w tv l.field.tallies) (hn : TriplesAt w nv l.notes) : Calls Tryz.prog 23 #[lv l tv nv] w (SurePost l w) := by
  have HA := Lib.hid (And.intro ht hn)
  obtain ⟨q, hq⟩ : ∃ q, faultW l = q := ⟨_, rfl⟩
  have HQ := Lib.hid hq
  have HF := Lib.hid (fun (W : World) (h : Below w.heap.size w W) => zfault_any l tv nv W (ht.below h (Nat.le_refl _)) (hn.below h (Nat.le_refl _)))
  rw [hq] at HF
  clear ht hn hq
  go_enter Tryz.func23, Tryz.ntmps23
  go_upto_region 1 with (fail)
  refine gworld fun W0 hW0 => ?_
  have hB0 : Below w.heap.size w W0 := by rw [hW0]; exact bgoAlloc (Below.refl _ _) _
  have hk0 : W0.heap[w.heap.size]? = some (.cells (lcells l tv nv) 30 (0, 0)) := by rw [hW0]; exact heap_new0 _ _
  have HK0 := Lib.hid (Keeps.one hB0 hk0)
  clear hW0 hB0 hk0
  obtain ⟨c0, f0, l0⟩ := cells_of_block HK0.out.blk
  go_wp2_with fail
  refine (HF.out W0 HK0.out.below).mono ?_
  rintro e W1 ⟨rfl, hb⟩
  have HK1 := Lib.hid (HK0.out.next hb)
  clear hb
  (try clear c0 f0)
  obtain ⟨c0, f0, l0⟩ := cells_of_block HK1.out.blk
  by_cases hq0 : q = 0
  case neg =>
    have hqb : (q != 0) = true := by simpa using hq0
    have HV := Lib.hid (show askedErr l true = q from by unfold askedErr; rw [HQ.out, if_pos hq0])
    have HQ0 := Lib.hid hq0
    clear hq0 c0 f0
    go_wp2_with fail
    go_returns
    exact ⟨HK1.out.below, .inl ⟨by rw [HV.out]; exact HQ0.out, by rw [HV.out]; simp⟩⟩
  subst hq0
  have hS := (faultW_sound HQ.out).1
  go_wp2_with fail
  refine (zRows_any hS tv nv W1 (HA.out.1.below HK1.out.below (Nat.le_refl _)) (HA.out.2.below HK1.out.below (Nat.le_refl _))).mono ?_
  rintro e W2 ⟨ev, es, rfl, hes, hmap, hb⟩
  obtain ⟨eo, ec, rfl⟩ := hes.1.open
  have hel := hes.1.len
  have HE := Lib.hid (And.intro hes hmap)
  have hrn := rowsL_none hS
  rw [← hmap] at hrn
  have HK2 := Lib.hid (HK1.out.next hb)
  clear hb
  (try clear c0 f0)
  obtain ⟨c0, f0, l0⟩ := cells_of_block HK2.out.blk
  clear hes hmap hS
  by_cases he0 : es.length = 0
  · have hnil : es = [] := List.eq_nil_of_length_eq_zero he0
    have hp : possibleL l [] = false := hrn.1 (by rw [hnil]; rfl)
    have HV := Lib.hid (show askedErr l true = 11 from by unfold askedErr; rw [HQ.out, hp]; rfl)
    have heb : ((es.length : Int) == 0) = true := by simp [he0]
    clear he0 hnil hp hrn c0 f0
    go_wp2_with fail
    go_returns
    exact ⟨HK2.out.below, .inl ⟨by rw [HV.out]; decide, by rw [HV.out]; simp⟩⟩
  · have hne : es ≠ [] := fun e => he0 (by rw [e]; rfl)
    have hp : possibleL l [] = true := by
      cases h : possibleL l []
      · exact absurd (List.map_eq_nil_iff.1 (hrn.2 h)) hne
      · rfl
    have HV := Lib.hid (show askedErr l true = 0 from by unfold askedErr; rw [HQ.out, hp]; rfl)
    have heb : ((es.length : Int) == 0) = false := by rw [beq_eq_false_iff_ne]; omega
    have HNE := Lib.hid hne
    clear he0 hne hp hrn c0 f0
    go_wp2_with fail
    go_returns
    exact ⟨HK2.out.below, .inr ⟨HV.out, _, es, by simp, HE.out.1, HE.out.2, HNE.out⟩⟩
end Go.Proofs.YtdjgikcnmokjkaaGreat

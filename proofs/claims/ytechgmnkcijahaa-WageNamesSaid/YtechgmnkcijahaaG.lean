/-
  Lemmas over any program that earlier texts proved: lists that slices hold, frames, rows that a call owns, iterators' own blocks.
-/
import Derived.WalkKit
import Derived.WalkLawsBesides
import Derived.WalkSpells
import Derived.Outline
import Derived.Handy
import Derived.KernelRfl
import Derived.Lib.Hide
import Derived.WalkKit
import Derived.WalkLawsBesides
import Derived.WalkSpells
import Derived.Outline
import Derived.Handy
import Derived.KernelRfl
import Derived.Laws.EntriesVeiled
import Derived.Deep.MidRow
import Derived.Laws.StructEq
import Derived.Maps.AppendAt
import Derived.WalkMore
import Derived.Deep.LoopGhost
import Derived.OwnWalkIn
import Derived.Laws.BitsLemmas
import Derived.Shelf.Abstract
import Derived.Test.YtechgmnkcijahaaProg
import Derived.Test.YtechgmnkcijahaaSeq
import Derived.Test.YtechgmnkcijahaaMA
namespace Go.SL
open Go.RowKit Go.RG
/-- append, with the block that the new slice lies in. -/
theorem run_append_at {P : Program} {w : World} {t e : TypeId} {z : Value} {size bytes : Nat} (hT : SliceT P t e z size bytes) (ty : TypeId) {base : Nat} {v : Value} {n : Nat} {xs : List Value} (hown : w.ownsRow base e size v n xs)
    {src : Value} {k : Nat} {news : List Value} (hsrc : SlAt size w src k news) (h1 : ∀ u ∈ news, u.oneCell' = true) (hb : (n + k) * bytes ≤ 140737488355328) (h63 : n + k ≤ 9223372036854775807) (hbase : base ≤ w.heap.size) :
    ∃ v' w', (Builtin.append_ #[t, t] ty #[v, src]).run P w = .ok v' w' ∧ w'.ownsRow base e size v' (n + k) (xs ++ news) ∧ w.grownBy w' v.ownBlock ∧ (v'.ownBlock = v.ownBlock ∨ v'.ownBlock = some w.heap.size) := by
  obtain ⟨i, hi, hz, hs, hby⟩ := info_parts hT.info
  obtain ⟨o, c, rfl, hl, hn, hc⟩ := hsrc.news
  cases o with
  | none =>
    obtain ⟨rfl, rfl⟩ := hn rfl
    have : news = [] := List.eq_nil_of_length_eq_zero (by simpa using hl)
    subst this
    have hrun := run_append_owned_none (P := P) w base t ty e i size hT.und hi v n xs hown
    exact ⟨v, w, hrun, by simpa using hown, World.grownBy.refl _ _, .inl rfl⟩
  | some a =>
    obtain ⟨v', w', h, h2, h3, _, h4⟩ := run_append_own_at (P := P) w base t ty e i z size bytes hT.und hi hz hs hby hT.cells hT.pos v n xs hown a k c news hl (hc a rfl) h1 (by simp only [maxLen]; omega) hb hbase
    exact ⟨v', w', h, h2, h3, h4⟩

theorem does_append_at {P : Program} {w : World} {t e : TypeId} {z : Value} {size bytes : Nat} (hT : SliceT P t e z size bytes) {o : Oper} {ρ : Operand → Value} {s x : Operand}
    (hop : o.op = Op.call { callee := Callee.builtin Builtin.append, args := #[s, x], argTypes := #[t, t] }) {base : Nat} {v : Value} {n : Nat} {xs : List Value} (hs : ρ s = v) (hown : w.ownsRow base e size v n xs)
    {src : Value} {k : Nat} {news : List Value} (hx : ρ x = src) (hsrc : SlAt size w src k news) (h1 : ∀ u ∈ news, u.oneCell' = true) (hb : (n + k) * bytes ≤ 140737488355328) (h63 : n + k ≤ 9223372036854775807) (hbase : base ≤ w.heap.size) :
    Does P o ρ w (fun v' w' => w'.ownsRow base e size v' (n + k) (xs ++ news) ∧ w.grownBy w' v.ownBlock ∧ (v'.ownBlock = v.ownBlock ∨ v'.ownBlock = some w.heap.size)) := by
  obtain ⟨v', w', hrun, h2, h3, h4⟩ := run_append_at (P := P) hT o.type hown hsrc h1 hb h63 hbase
  refine does_value (W' := w') v' ?_ ⟨h2, h3, h4⟩
  simp [execOp, hop, resolve, invoke, builtin, hs, hx, hrun, Result.andThen]

theorem wpListIn_append {F : Fence} {n : Nat} (hF : ∀ f, F.fn f) (hd : F.depth = none) {P : Program} (hcall : ∀ f args w R, Calls P f args w R → CallsIn F (n - 1) P f args w R)
    {w : World} {ops : Array Oper} {rest : List Oper} {o : Oper} {a : Act} {Q : Exit → Act → World → Prop} (hg : o.guard = none) (s x : Operand) {t e : TypeId} {z : Value} {size bytes : Nat} (hT : SliceT P t e z size bytes)
    (hop : o.op = Op.call { callee := Callee.builtin Builtin.append, args := #[s, x], argTypes := #[t, t] }) (base : Nat) (v : Value) (m : Nat) (xs : List Value) (hs : a.eval s = v) (hown : w.ownsRow base e size v m xs)
    (src : Value) (k : Nat) (news : List Value) (hx : a.eval x = src) (hsrc : SlAt size w src k news) (h1 : ∀ u ∈ news, u.oneCell' = true) (hb : (m + k) * bytes ≤ 140737488355328) (h63 : m + k ≤ 9223372036854775807) (hbase : base ≤ w.heap.size)
    (hK : ∀ v' w', w'.ownsRow base e size v' (m + k) (xs ++ news) → w.grownBy w' v.ownBlock → (v'.ownBlock = v.ownBlock ∨ v'.ownBlock = some w.heap.size) → wpListIn F n P ops Q rest (a.put o.dst v') w') : wpListIn F n P ops Q (o :: rest) a w := by
  refine wpListIn_plain hg fun K hK' => ?_
  exact does_wpIn hF hd (fun c h => by rw [hop] at h; cases h) hcall (does_append_at (P := P) hT hop hs hown hx hsrc h1 hb h63 hbase) fun v' w' ⟨h2, h3, h4⟩ => hK' _ _ (hK v' w' h2 h3 h4)

theorem len_flat (ls : List (List Int)) (k : Nat) (h : ∀ x ∈ ls, x.length = k) : (ls.flatMap intCells).length = ls.length * k := by
  induction ls with
  | nil => simp
  | cons x ls ih =>
    rw [List.flatMap_cons, List.length_append, ih (fun y hy => h y (by simp [hy])), List.length_cons, Nat.add_mul]
    have := h x (by simp)
    simp [intCells, this]; omega

theorem range_of_block {w : World} {g : Nat} {cs : Array Value} {t : TypeId} {fr : Nat × Nat} (h : w.heap[g]? = some (.cells cs t fr)) : w.rangeAt g 0 cs.toList := fun j u hj => by
  simp only [World.cell?, h, Nat.zero_add]; simpa using hj

end Go.SL

namespace Go.Proofs.Ytechgmnkcijahaa
open Go.RowKit Go.RG Go.SL Go.Shelf Cou
set_option maxHeartbeats 400000
set_option maxRecDepth 10000

abbrev iv (n : Int) : Value := .int .i64 n
abbrev rv (r : Rng) : Value := .agg #[.int .i64 r.1, .int .i64 r.2]
abbrev aggI (l : List Int) : Value := .agg (intCells l).toArray

theorem idxI (l : List Int) (v : Value) (fid : Nat) (fst caps : Array Value) (p : Nat → Bool) (I : Nat → World → Prop) (w : World) (eg : ∀ args w, (callFunc fid args).run Try.prog w = .ok (.enter fid args) w)
    (hsl : ∀ k W, I k W → IntsAt W v l)
    (hcall : ∀ k (hk : k < l.length) W, (∀ j, j < k → p j = false) → I k W → Calls Try.prog fid (fst.push (iv l[k]) ++ caps) W (fun e W' => e = .returned (.bool (p k)) ∧ I (k + 1) W')) (h0 : I 0 w) :
    Calls Try.prog 95 #[v, .func (.func fid) fst caps] w (IdxPost l.length p I (fun k => iv k) (iv (-1))) := by
  have hlen := (hsl 0 w h0).len
  obtain ⟨o, c, rfl⟩ := (hsl 0 w h0).open
  have HC := Lib.hid hcall
  have HS := Lib.hid hsl
  clear hcall hsl
  go_enter Try.func95, Try.ntmps95
  go_wp2
  go_loopw [4, 5, 8] (fun _ _ i wr => ∃ k : Nat, k ≤ l.length ∧ i = .int .i64 k ∧ (∀ j, j < k → p j = false) ∧ I k wr) (fun _ _ i _ => l.length - (intOf i).toNat)
  case atStart => exact ⟨0, Nat.zero_le _, rfl, fun j hj => by omega, h0⟩
  case round =>
    obtain ⟨k, hk, rfl, hno, hI⟩ := hrel
    by_cases hlt : k < l.length
    · obtain ⟨b, off, rfl, hb, hc0⟩ := IntsAt.cell (HS.out k wr hI) hlt
      have hC := HC.out k hlt wr hno hI
      have HN := Lib.hid hno
      clear hno
      go_wp2_with fail
      refine hC.mono ?_
      rintro e W1 ⟨rfl, hI1⟩
      have HI := Lib.hid hI1
      clear hI1 hI hC
      cases hp : p k
      · go_wp2_with fail
        go_roundw
        case rel => exact ⟨k + 1, by omega, by go_num, fun j hj => (by by_cases e : j = k; (subst e; exact hp); exact HN.out j (by omega)), HI.out⟩
        case measure => simp [intOf]; omega
      · go_wp2_with fail
        go_returns
        exact ⟨k, by omega, HN.out, .inl ⟨hlt, hp, by simp, HI.out⟩⟩
    · have hkl : k = l.length := by omega
      have HN := Lib.hid hno
      clear hno
      go_wp2_with fail
      go_returns
      exact ⟨k, by omega, HN.out, .inr ⟨hkl, by simp, by subst hkl; exact hI⟩⟩

theorem contI (l : List Int) (v : Value) (fid : Nat) (fst caps : Array Value) (p : Nat → Bool) (I : Nat → World → Prop) (w : World) (eg : ∀ args w, (callFunc fid args).run Try.prog w = .ok (.enter fid args) w)
    (hsl : ∀ k W, I k W → IntsAt W v l)
    (hcall : ∀ k (hk : k < l.length) W, (∀ j, j < k → p j = false) → I k W → Calls Try.prog fid (fst.push (iv l[k]) ++ caps) W (fun e W' => e = .returned (.bool (p k)) ∧ I (k + 1) W')) (h0 : I 0 w) :
    Calls Try.prog 77 #[v, .func (.func fid) fst caps] w (IdxPost l.length p I (fun _ => .bool true) (.bool false)) := by
  have HI := Lib.hid (idxI l v fid fst caps p I w eg hsl hcall h0)
  have hlen := (hsl 0 w h0).len
  clear hsl hcall h0 eg
  go_enter Try.func77, Try.ntmps77
  go_wp2_with fail
  refine HI.out.mono ?_
  clear HI
  rintro e W' ⟨k, hk, hno, ⟨hlt, hp, rfl, hI⟩ | ⟨hkl, rfl, hI⟩⟩
  · have HN := Lib.hid (And.intro hno (And.intro hp hI))
    clear hno hp hI
    go_wp2_with fail
    go_returns
    exact ⟨k, hk, HN.out.1, .inl ⟨hlt, HN.out.2.1, by simp, HN.out.2.2⟩⟩
  · have HN := Lib.hid (And.intro hno (And.intro hkl hI))
    clear hno hkl hI
    go_wp2_with fail
    go_returns
    exact ⟨k, hk, HN.out.1, .inr ⟨HN.out.2.1, by simp, HN.out.2.1 ▸ HN.out.2.2⟩⟩

theorem min_two (a b : Int) (g c : Nat) (w : World) (h0 : w.cell? ⟨g, 0, none⟩ = some (iv a)) (h1 : w.cell? ⟨g, 1, none⟩ = some (iv b)) :
    Calls Try.prog 73 #[.slice (some ⟨g, 0, none⟩) 2 c] w (PV (iv (min a b)) w) := by
  go_enter Try.func73, Try.ntmps73
  go_wp2
  go_rounds 2
  all_goals
    go_returns
    exact ⟨by simp; omega, Below.refl _ _⟩

theorem contains_any (l : List Int) (v : Value) (n : Int) (w : World) (hv : IntsAt w v l) : Calls Try.prog 71 #[v, iv n] w (PV (.bool (l.contains n)) w) := by
  have hidx : Calls Try.prog 92 #[v, iv n] w (fun e w' => w = w' ∧ ((l.contains n = true ∧ ∃ k : Nat, k < l.length ∧ e = .returned (iv k)) ∨ (l.contains n = false ∧ e = .returned (iv (-1))))) := by
    have hlen := hv.len
    obtain ⟨o, c, rfl⟩ := hv.open
    have HV := Lib.hid hv
    clear hv
    go_enter Try.func92, Try.ntmps92
    go_wp2
    go_loop [4, 5, 8] (fun _ _ i => ∃ k : Nat, k ≤ l.length ∧ i = .int .i64 k ∧ (∀ j (hj : j < l.length), j < k → l[j] ≠ n)) (fun _ _ i => l.length - (intOf i).toNat)
    case atStart => exact ⟨0, Nat.zero_le _, rfl, fun j _ hj => by omega⟩
    case round =>
      obtain ⟨k, hk, rfl, hno⟩ := hrel
      have HN := Lib.hid hno
      clear hno
      by_cases hlt : k < l.length
      · obtain ⟨b, off, rfl, hb, hc0⟩ := IntsAt.cell HV.out hlt
        by_cases he : l[k] = n
        · have he' : (n == l[k]) = true := by simp [he]
          have HE := Lib.hid he
          clear he
          go_wp2
          go_returns
          exact ⟨rfl, .inl ⟨by rw [← HE.out]; exact List.getElem_mem _, k, hlt, by simp⟩⟩
        · have he' : (n == l[k]) = false := by simp; omega
          have HE := Lib.hid he
          clear he
          go_wp2
          go_round
          case rel => exact ⟨k + 1, by omega, by go_num, fun j hj hjk => (by by_cases e : j = k; (subst e; exact HE.out); exact HN.out j hj (by omega))⟩
          case measure => simp [intOf]; omega
      · have hkl : k = l.length := by omega
        go_wp2
        go_returns
        refine ⟨rfl, .inr ⟨?_, by simp⟩⟩
        intro hm
        obtain ⟨j, hj, e⟩ := List.getElem_of_mem hm
        exact HN.out j hj (by omega) e
  have HI := Lib.hid hidx
  clear hidx
  go_enter Try.func71, Try.ntmps71
  go_wp2_with fail
  refine HI.out.mono ?_
  rintro e w' ⟨rfl, ⟨hc, k, hk, rfl⟩ | ⟨hc, rfl⟩⟩
  · have HC := Lib.hid hc
    clear hc
    go_wp2_with fail
    go_returns
    exact ⟨by rw [HC.out]; simp, Below.refl _ _⟩
  · have HC := Lib.hid hc
    clear hc
    go_wp2_with fail
    go_returns
    exact ⟨by rw [HC.out]; simp, Below.refl _ _⟩

theorem tInts : SliceT Try.prog 36 3 (iv 0) 1 8 := ⟨Try.underlying36, by kernel_rfl, rfl, by omega⟩

theorem check_int (b : Bool) (d : Nat) (n : Int) (w : World) : (Instr.checkKey b (d + 1) 3 (iv n)).run Try.prog w = .ok () w := by
  unfold Instr.checkKey
  simp [go_sem]

theorem check_bool (b : Bool) (d : Nat) (t : Bool) (w : World) : (Instr.checkKey b (d + 1) 4 (.bool t)).run Try.prog w = .ok () w := by
  unfold Instr.checkKey
  simp [go_sem]

/-- It returns a slice of its own; nothing that was there has turned. -/
def POwn (t : TypeId) (size n : Nat) (xs : List Value) (w : World) (e : Ending) (w' : World) : Prop := ∃ v, e = .returned v ∧ w'.ownsRow w.heap.size t size v n xs ∧ Below w.heap.size w w'

theorem clone_any (l : List Int) (v : Value) (w : World) (hv : IntsAt w v l) (hlen : l.length ≤ 1000) :
    Calls Try.prog 41 #[v] w (POwn 3 1 l.length (intCells l) w) := by
  obtain ⟨o, c, rfl⟩ := hv.open
  have HV := Lib.hid hv
  have hnil := fun (w : World) a n c => Lib.run_eql_slice_nil (P := Try.prog) w 36 3 a n c 0 0 Try.underlying36
  cases o with
  | none =>
    have hl0 : l.length = 0 := by
      obtain ⟨_, o, c', h0, h1, h2, h3, h4⟩ := hv
      cases h0
      have := h3 rfl
      omega
    have hc0 : c = 0 := by
      obtain ⟨_, o, c', h0, h1, h2, h3, h4⟩ := hv
      cases h0
      exact h3 rfl
    have hl : l = [] := List.eq_nil_of_length_eq_zero hl0
    subst hl
    clear hv
    subst hc0
    go_enter Try.func41, Try.ntmps41
    go_wp2
    go_returns
    exact ⟨.slice none 0 0, by simp, ⟨by simp [intCells], .inl ⟨rfl, rfl⟩⟩, Below.refl _ _⟩
  | some a =>
    obtain ⟨b, off, sp⟩ := a
    obtain rfl : sp = none := by
      obtain ⟨_, o, c', h0, h1, h2, h3, h4⟩ := hv
      cases h0
      exact (h4 _ rfl).1
    clear hv
    go_enter Try.func41, Try.ntmps41
    go_wp2_with (at_builtin; refine wpList_append rfl _ _ tInts rfl w.heap.size (.slice (some ⟨w.heap.size, 0, none⟩) 0 0) 0 [] rfl ?_ (.slice (some ⟨b, off, none⟩) l.length c) l.length (intCells l) rfl ?_ (one_ints _) (by omega) (by omega) (by simp) ?_)
    · exact owns_block (cs := #[]) (n := 0) (heap_new0 _ _) rfl (Nat.le_refl _) (by decide)
    · exact HV.out.alloc _
    · intro v' w1 hown hgrow
      have HO := Lib.hid hown
      have HG := Lib.hid hgrow
      clear hown hgrow
      go_wp2
      go_returns
      refine ⟨v', by simp, ?_, ?_⟩
      · exact HO.out
      · exact Below.grown (bgoAlloc (Below.refl _ _) _) HG.out (by simp) (fun k e => by cases e; exact Nat.le_refl _)

/-- It returns a new slice and an error; nothing that was there has turned. -/
def POwnE (t : TypeId) (size n : Nat) (xs : List Value) (err : Int) (w : World) (e : Ending) (w' : World) : Prop :=
  ∃ v, e = .returned (.tuple #[v, .int .i64 err]) ∧ w'.ownsRow w.heap.size t size v n xs ∧ Below w.heap.size w w'

theorem make_ints (n : Nat) (hn : n ≤ 1000) (W : World) :
    (Instr.makeSlice 36 (iv n) (iv n)).run Try.prog W = .ok (.slice (some ⟨W.heap.size, 0, none⟩) n n) (W.alloc (.cells (intCells (List.replicate n 0)).toArray 3)) := by
  obtain ⟨i, hi, hz, hs, hby⟩ := info_parts tInts.info
  have := run_make (P := Try.prog) W 36 3 i (iv 0) tInts.und hi hz .i64 .i64 n n (by omega) (Int.le_refl _) (by rw [hby]; omega) (by omega)
  rw [this, hs]
  simp only [Int.toNat_natCast]
  congr 3
  apply Array.ext
  · simp [madeCells, intCells]
  · intro j h1 h2
    simp [madeCells, intCells, Value.cells]
    rw [Nat.mod_one]
    rfl

theorem heap_new3 (w : World) (A B C D : Obj) : ((((w.alloc A).alloc B).alloc C).alloc D).heap[w.heap.size + 1 + 1 + 1]? = some D := by
  have := heap_alloc_new (((w.alloc A).alloc B).alloc C) D; rwa [World.size_alloc, World.size_alloc, World.size_alloc] at this

theorem slice_rest (ob n : Nat) (hn : 1 ≤ n) (W : World) :
    (Instr.slice 36 (.slice (some ⟨ob, 0, none⟩) (n + 1) (n + 1)) (some (iv 1)) none none).run Try.prog W = .ok (.slice (some ⟨ob, 1, none⟩) n n) W := by
  have h0 : ¬ n + 1 = 1 := by omega
  have h1 : (1 : Int) ≤ ((n + 1 : Nat) : Int) := by omega
  have := run_slice_l (P := Try.prog) W 36 (some ⟨ob, 0, none⟩) (n + 1) (n + 1) (by kernel_rfl) .i64 1 (by omega) h1
  rw [this]
  have h2 : ¬ n = 0 := by omega
  simp [go_sem, sliced, h2]

/-- All cells of a block are written. -/
theorem store_block (P : Program) {w : World} {g : Nat} {t : TypeId} {cur : Array Value} (ys : List Int) (hg : w.heap[g]? = some (.cells cur t (0, 0))) (hl : cur.size = ys.length) :
    ∃ w', (storeCells ⟨g, 0, none⟩ (intCells ys)).run P w = .ok () w' ∧ w'.heap[g]? = some (.cells (intCells ys).toArray t (0, 0)) ∧ Ext [g] w w' := by
  have hil : (intCells ys).length = ys.length := by simp [intCells]
  have h := run_storeCells_at P g 0 t (intCells ys) 0 cur w hg (by omega) (one_ints ys)
  refine ⟨_, h, ?_, rfl, rfl, rfl, by simp, fun k _ hm => setRow_other _ _ _ _ (by simpa using hm)⟩
  rw [setRow_heap w g cur _ t _ hg]
  simp
  omega

theorem ext_newer {Ms : List Nat} {a b c : World} {x : Nat} (h : Ext Ms a b) (k : Ext [x] b c) (hx : a.heap.size ≤ x) : Ext Ms a c :=
  ⟨k.os.trans h.os, k.tape.trans h.tape, k.output.trans h.output, Nat.le_trans h.size k.size,
    fun i hi hm => (k.block i (Nat.lt_of_lt_of_le hi h.size) (by simp; omega)).trans (h.block i hi hm)⟩

theorem skipR {l n : Nat} {P : Program} {ops : Array Oper} {Q : Exit → Act → World → Prop} {a : Act} {w : World} {rest : List Oper} {o : Oper} (hw : Region.wanted o (yielded ops a.tmps) = false)
    (h : wpListIn (Fence.wide.inRound l) n P ops Q rest (a.put o.dst undef) w) : wpListIn (Fence.wide.inRound l) n P ops Q (o :: rest) a w := by
  simp only [wpListIn, hw]
  exact ⟨fun _ _ => trivial, h⟩

theorem range_all_succ (q : Nat) (f : Nat → Bool) : (List.range (q + 1)).all f = ((List.range q).all f && f q) := by
  rw [List.range_succ, List.all_append]
  simp

theorem below_of_ext {w W W' : World} {mb : Nat} (h : Below w.heap.size w W) (hE : Ext [mb] W W') (hm : w.heap.size ≤ mb) : Below w.heap.size w W' :=
  h.trans ⟨hE.os, hE.tape, hE.output, hE.size, fun k hk => by
    by_cases hlt : k < W.heap.size
    · exact hE.block k hlt (by simp; omega)
    · have := h.size; omega⟩

/-- A list is left alone by whatever turns blocks that hold no numbers. -/
theorem IntsAt.ext_not {w w' : World} {v : Value} {l : List Int} (h : IntsAt w v l) {Ms : List Nat} (hE : Ext Ms w w') (hM : ∀ x ∈ Ms, ∀ o n, w.cell? ⟨x, o, none⟩ ≠ some (.int .i64 n)) : IntsAt w' v l := by
  obtain ⟨hl, o, c, rfl, h1, h2, h3, h4⟩ := h
  refine ⟨hl, o, c, rfl, h1, h2, h3, fun a ha => ?_⟩
  obtain ⟨hs, hc⟩ := h4 a ha
  obtain ⟨b, off, sp⟩ := a
  simp only at hs hc
  subst hs
  refine ⟨rfl, fun j u hj => ?_⟩
  have hcell := hc j u hj
  have hlt := World.block_lt_of_cell? w _ hcell
  rw [hE.cell b _ hlt (fun hm => by
    obtain ⟨n, _, rfl⟩ := List.mem_map.1 (List.mem_of_getElem? hj)
    exact hM b hm _ _ hcell)]
  exact hcell

theorem owns_ext {w w' : World} {base : Nat} {e : TypeId} {size : Nat} {v : Value} {n : Nat} {xs : List Value} (h : w.ownsRow base e size v n xs) {Ms : List Nat} (hE : Ext Ms w w') (hM : ∀ x ∈ Ms, x < base) : w'.ownsRow base e size v n xs := by
  obtain ⟨h1, h2 | ⟨g, c, cs, hv, hb, hc, h3⟩⟩ := h
  · exact ⟨h1, .inl h2⟩
  · exact ⟨h1, .inr ⟨g, c, cs, hv, hb, (hE.block g (Array.getElem?_eq_some_iff.1 hc).1 (fun hm => by have := hM g hm; omega)).trans hc, h3⟩⟩

theorem owns_slice {w : World} {base : Nat} {e : TypeId} {size : Nat} {v : Value} {n : Nat} {xs : List Value} (h : w.ownsRow base e size v n xs) : ∃ o c, v = .slice o n c := by
  obtain ⟨h1, ⟨rfl, rfl⟩ | ⟨g, c, cs, rfl, hb, hc, h3⟩⟩ := h
  · exact ⟨none, 0, rfl⟩
  · exact ⟨_, _, rfl⟩

theorem below_extN {w w' : World} {B : Nat} (h : ExtN B [] w w') (hB : w.heap.size ≤ B) : Below w.heap.size w w' := ⟨h.os, h.tape, h.output, h.size, fun k hk => h.block k hk (by omega) (by simp)⟩

theorem extN_grown {w w' : World} {B : Nat} {e : TypeId} {size : Nat} {v : Value} {n : Nat} {xs : List Value} (h : w.ownsRow B e size v n xs) (hg : w.grownBy w' v.ownBlock) : ExtN B [] w w' :=
  ⟨hg.os, hg.tape, hg.output, hg.size, fun k hk hb _ => hg.block k hk (fun e1 => by
    obtain ⟨h1, ⟨rfl, rfl⟩ | ⟨g, c, cs, rfl, hb', hc, h3⟩⟩ := h
    · cases e1
    · have : k = g := by simpa [Value.ownBlock] using e1
      omega)⟩

theorem map_flat {α : Type} (f : α → List (List Int)) (g : List Int → List Int) (l : List α) : (l.flatMap f).map g = l.flatMap fun x => (f x).map g := by
  rw [List.map_flatMap]

theorem shift_find (below m q : Nat) (l : List Int) (p : List Int → Bool) : ((((combs below m (q + 1)).map fun x => ((q : Nat) : Int) :: x)).map (l ++ ·)).find? p = ((combs below m (q + 1)).map ((l ++ [(q : Int)]) ++ ·)).find? p := by
  rw [List.map_map]
  congr 1
  apply List.map_congr_left
  intro x _
  simp

theorem owns_base {w : World} {base base' : Nat} {e : TypeId} {size : Nat} {v : Value} {n : Nat} {xs : List Value} (h : w.ownsRow base' e size v n xs) (hB : base ≤ base') : w.ownsRow base e size v n xs := by
  obtain ⟨h1, h2 | ⟨g, c, cs, hv, hb, h3⟩⟩ := h
  · exact ⟨h1, .inl h2⟩
  · exact ⟨h1, .inr ⟨g, c, cs, hv, Nat.le_trans hB hb, h3⟩⟩

theorem _root_.Go.RG.Does.mono {P : Program} {o : Oper} {ρ : Operand → Value} {W : World} {R R' : Value → World → Prop} (h : Does P o ρ W R) (hR : ∀ v W', R v W' → R' v W') : Does P o ρ W R' := by
  unfold Does at h ⊢
  split at h
  · exact hR _ _ h
  · exact hR _ _ h
  · exact h.mono fun e w' ⟨v, h1, h2⟩ => ⟨v, h1, hR _ _ h2⟩
  · exact h.elim

theorem intCells_snoc (l : List Int) (x : Int) : intCells (l ++ [x]) = intCells l ++ intCells [x] := by simp [intCells]

theorem ints_nil (w : World) : IntsAt w (.slice none 0 0) [] := ⟨rfl, none, 0, rfl, Nat.le_refl _, by decide, fun _ => rfl, fun a h => by cases h⟩

theorem shortL_at {below k : Nat} {p : List Int → Bool} {c : List Int} (hk : k ≤ below) (h1 : ∀ j, j < k → (combs below j 0).find? p = none) (h2 : (combs below k 0).find? p = some c) : shortL below p = some c := by
  unfold shortL
  refine find_flat_first p _ _ k (by simp; omega) c (fun j hj => ?_) ?_
  · simp only [List.getElem_range]; exact h1 j hj
  · simp only [List.getElem_range]; exact h2

theorem shortL_no {below : Nat} {p : List Int → Bool} (h1 : ∀ j, j < below + 1 → (combs below j 0).find? p = none) : shortL below p = none := by
  unfold shortL
  refine find_flat_none p _ _ fun j hj => ?_
  simp only [List.length_range] at hj
  simp only [List.getElem_range]; exact h1 j hj

theorem one_flat (ls : List (List Int)) : ∀ u ∈ ls.flatMap intCells, u.oneCell' = true := by
  intro u hu
  obtain ⟨x, _, h⟩ := List.mem_flatMap.1 hu
  exact one_ints x u h

theorem owns_keep {w w' : World} {base : Nat} {e : TypeId} {size : Nat} {v : Value} {n : Nat} {xs : List Value} (h : w.ownsRow base e size v n xs) (hk : ∀ g, v.ownBlock = some g → w'.heap[g]? = w.heap[g]?) : w'.ownsRow base e size v n xs := by
  obtain ⟨h1, h2 | ⟨g, c, cs, rfl, hb, hc, h3⟩⟩ := h
  · exact ⟨h1, .inl h2⟩
  · exact ⟨h1, .inr ⟨g, c, cs, rfl, hb, (hk g rfl).trans hc, h3⟩⟩

theorem owns_ge {w : World} {base : Nat} {e : TypeId} {size : Nat} {v : Value} {n : Nat} {xs : List Value} (h : w.ownsRow base e size v n xs) : ∀ g, v.ownBlock = some g → base ≤ g ∧ g < w.heap.size := by
  intro g hg
  obtain ⟨h1, ⟨rfl, rfl⟩ | ⟨g', c, cs, rfl, hb, hc, h3⟩⟩ := h
  · cases hg
  · have : g = g' := by simpa [Value.ownBlock] using hg.symm
    subst this
    exact ⟨hb, (Array.getElem?_eq_some_iff.1 hc).1⟩

theorem flat_at' {α : Type} (f : α → List Value) (sz : Nat) : ∀ (l : List α), (∀ x ∈ l, (f x).length = sz) → ∀ (k j : Nat) (hk : k < l.length), j < sz → (l.flatMap f)[k * sz + j]? = (f l[k])[j]? := by
  intro l
  induction l with
  | nil => intro _ k j hk; simp at hk
  | cons x l ih =>
    intro hf k j hk hj
    have hx := hf x (by simp)
    cases k with
    | zero => simp [List.flatMap_cons, List.getElem?_append_left (show j < (f x).length by rw [hx]; exact hj)]
    | succ k =>
      have e : (k + 1) * sz + j = (f x).length + (k * sz + j) := by rw [hx, Nat.add_mul]; omega
      rw [List.flatMap_cons, e, List.getElem?_append_right (by omega), Nat.add_sub_cancel_left, ih (fun y hy => hf y (by simp [hy])) k j (by simpa using hk) hj]
      rfl

/-- An element of a slice of arrays. -/
theorem owns_at {w : World} {base : Nat} {e : TypeId} {q : Nat} {v : Value} {ls : List (List Int)} (h : w.ownsRow base e q v ls.length (ls.flatMap intCells)) (hl : ∀ x ∈ ls, x.length = q) {k : Nat} (hk : k < ls.length) :
    ∃ g c, v = .slice (some ⟨g, 0, none⟩) ls.length c ∧ g < w.heap.size ∧ w.rangeAt g (k * q) (intCells ls[k]) := by
  obtain ⟨h1, ⟨hv, h2⟩ | ⟨g, c, cs, hv, hb, hc, hn, hm, hs, hx⟩⟩ := h
  · omega
  · refine ⟨g, c, hv, (Array.getElem?_eq_some_iff.1 hc).1, fun j u hj => ?_⟩
    have hj' : j < q := by have := (List.getElem?_eq_some_iff.1 hj).1; simpa [intCells, hl _ (List.getElem_mem hk)] using this
    have e1 : (ls.flatMap intCells)[k * q + j]? = some u := by
      rw [flat_at' intCells q ls (fun x hx => by simp [intCells, hl x hx]) k j hk hj']; exact hj
    rw [← hx, List.getElem?_take] at e1
    split at e1
    · simp only [World.cell?, hc]; simpa using e1
    · cases e1

theorem pairCells_set : ∀ (R : List Rng) (i : Nat) (r : Rng), i < R.length → pairCells (R.set i r) = ((pairCells R).set (i * 2) (iv r.1)).set (i * 2 + 1) (iv r.2) := by
  intro R
  induction R with
  | nil => intro i r hi; simp at hi
  | cons x R ih =>
    intro i r hi
    cases i with
    | zero => simp [pairCells]
    | succ i =>
      have := ih i r (by simpa using hi)
      simp only [pairCells, List.set_cons_succ, List.flatMap_cons] at this ⊢
      rw [show (i + 1) * 2 = i * 2 + 1 + 1 by omega]
      simp only [List.cons_append, List.nil_append, List.set_cons_succ]
      rw [this]

theorem owns_set {w : World} {base : Nat} {e : TypeId} {size n : Nat} {g c : Nat} {xs : List Value} (h : w.ownsRow base e size (.slice (some ⟨g, 0, none⟩) n c) n xs) (j : Nat) (_hj : j < n * size) (u : Value) :
    (w.setCell ⟨g, j, none⟩ u).ownsRow base e size (.slice (some ⟨g, 0, none⟩) n c) n (xs.set j u) := by
  obtain ⟨h1, ⟨hv, h2⟩ | ⟨g', c', cs, hv, hb, hc, hn, hm, hs, hx⟩⟩ := h
  · cases hv
  · cases hv
    refine ⟨by simpa using h1, .inr ⟨g, c, cs.setIfInBounds j u, rfl, hb, set_block hc _, hn, hm, by simpa using hs, ?_⟩⟩
    rw [← hx, Array.toList_setIfInBounds, List.take_set]

theorem owns_set_pair {w : World} {base : Nat} {e : TypeId} {g c : Nat} {R : List Rng} (h : w.ownsRow base e 2 (.slice (some ⟨g, 0, none⟩) R.length c) R.length (pairCells R)) {i : Nat} (hi : i < R.length) (r : Rng) :
    ((w.setCell ⟨g, i * 2, none⟩ (iv r.1)).setCell ⟨g, i * 2 + 1, none⟩ (iv r.2)).ownsRow base e 2 (.slice (some ⟨g, 0, none⟩) R.length c) R.length (pairCells (R.set i r)) := by
  rw [pairCells_set R i r hi]
  exact owns_set (owns_set h (i * 2) (by omega) (iv r.1)) (i * 2 + 1) (by omega) (iv r.2)

/-- The cells of an own pair. -/
theorem owns_pair {w : World} {base : Nat} {e : TypeId} {v : Value} {R : List Rng} (h : w.ownsRow base e 2 v R.length (pairCells R)) {i : Nat} (hi : i < R.length) :
    ∃ g c, v = .slice (some ⟨g, 0, none⟩) R.length c ∧ base ≤ g ∧ g < w.heap.size ∧ (w.cell? ⟨g, i * 2, none⟩ = some (iv R[i].1) ∧ w.cell? ⟨g, i * 2 + 1, none⟩ = some (iv R[i].2)) ∧ ∀ j, w.frozen? ⟨g, j, none⟩ = false := by
  obtain ⟨h1, ⟨hv, h2⟩ | ⟨g, c, cs, hv, hb, hc, hn, hm, hs, hx⟩⟩ := h
  · omega
  · have k0 : (pairCells R)[i * 2 + 0]? = some (iv R[i].1) := by unfold pairCells; rw [flat_get _ 2 (fun _ => rfl) R i 0 hi (by omega)]; rfl
    have k1 : (pairCells R)[i * 2 + 1]? = some (iv R[i].2) := by unfold pairCells; rw [flat_get _ 2 (fun _ => rfl) R i 1 hi (by omega)]; rfl
    refine ⟨g, c, hv, hb, (Array.getElem?_eq_some_iff.1 hc).1, ⟨?_, ?_⟩, fun j => frozen_of_block hc j⟩
    · rw [← hx, List.getElem?_take] at k0
      split at k0
      · simp only [World.cell?, hc]; simpa using k0
      · cases k0
    · rw [← hx, List.getElem?_take] at k1
      split at k1
      · simp only [World.cell?, hc]; simpa using k1
      · cases k1

theorem wpList_append_at {P : Program} {w : World} {ops : Array Oper} {rest : List Oper} {o : Oper} {a : Act} {Q : Exit → Act → World → Prop} (hg : o.guard = none) (s x : Operand) {t e : TypeId} {z : Value} {size bytes : Nat} (hT : SliceT P t e z size bytes)
    (hop : o.op = Op.call { callee := Callee.builtin Builtin.append, args := #[s, x], argTypes := #[t, t] }) (base : Nat) (v : Value) (n : Nat) (xs : List Value) (hs : a.eval s = v) (hown : w.ownsRow base e size v n xs)
    (src : Value) (k : Nat) (news : List Value) (hx : a.eval x = src) (hsrc : SlAt size w src k news) (h1 : ∀ u ∈ news, u.oneCell' = true) (hb : (n + k) * bytes ≤ 140737488355328) (h63 : n + k ≤ 9223372036854775807) (hbase : base ≤ w.heap.size)
    (hK : ∀ v' w', w'.ownsRow base e size v' (n + k) (xs ++ news) → w.grownBy w' v.ownBlock → (v'.ownBlock = v.ownBlock ∨ v'.ownBlock = some w.heap.size) → wpList P ops Q rest (a.put o.dst v') w') : wpList P ops Q (o :: rest) a w := by
  refine wpList_plain hg fun K hK' => ?_
  exact does_wp (does_append_at (P := P) hT hop hs hown hx hsrc h1 hb h63 hbase) fun v' w' ⟨h2, h3, h4⟩ => hK' _ _ (hK v' w' h2 h3 h4)

theorem pairs_nil (w : World) : PairsAt w (.slice none 0 0) [] := ⟨rfl, none, 0, rfl, Nat.le_refl _, by decide, fun _ => rfl, fun a h => by cases h⟩

theorem below_ext {w W W' : World} {mb : Nat} (h : Below w.heap.size w W) (hE : Ext [mb] W W') (hm : w.heap.size ≤ mb) : Below w.heap.size w W' := below_of_ext h hE hm

theorem set_three {W : World} {g : Nat} {t : TypeId} {x y z : Value} (h : W.heap[g]? = some (.cells #[x, y, z] t (0, 0))) (a b c : Value) :
    (((W.setCell ⟨g, 0, none⟩ a).setCell ⟨g, 1, none⟩ b).setCell ⟨g, 2, none⟩ c).heap[g]? = some (.cells #[a, b, c] t (0, 0)) := set_block (set_block (set_block h a) b) c

theorem gworld {P : Program} {c : Code} {Q : Exit → Act → World → Prop} {a : Act} {W : World} (h : ∀ W', W' = W → Code.wp P c Q a W') : Code.wp P c Q a W := h W rfl

/-- append onto a slice of the call's own. -/
theorem ap_push0 {w W W5 W6 : World} {base size n n' : Nat} {e : TypeId} {v v' : Value} {xs xs' : List Value} (hB : Below w.heap.size w W) (hown : W.ownsRow base e size v n xs) (hE : Ext [] W W5)
    (_hown6 : W6.ownsRow base e size v' n' xs') (hgr : W5.grownBy W6 v.ownBlock) (hbase : w.heap.size ≤ base) (hsz : base ≤ W.heap.size) :
    Below w.heap.size w W6 ∧ base ≤ W6.heap.size ∧ ∀ c, c < base → W6.heap[c]? = W.heap[c]? := by
  have hk : ∀ c, c < base → W6.heap[c]? = W.heap[c]? := fun c hc => by
    have h5 := hE.size
    refine (hgr.block c (by omega) (fun e1 => ?_)).trans (hE.block c (by omega) (by simp))
    have := (owns_ge hown c e1.symm).1
    omega
  have h5 := hE.size
  have h6 := hgr.size
  refine ⟨⟨?_, ?_, ?_, ?_, fun c hc => ?_⟩, by omega, hk⟩
  · exact hgr.os.trans (hE.os.trans hB.os)
  · exact hgr.tape.trans (hE.tape.trans hB.tape)
  · exact hgr.output.trans (hE.output.trans hB.output)
  · have := hB.size; omega
  · exact (hk c (by omega)).trans (hB.block c hc)

/-- append onto a slice of the call's own that lies in a box. -/
theorem ap_push {w W W5 W6 : World} {base size n n' b i : Nat} {e t : TypeId} {v v' u : Value} {xs xs' : List Value} {cs : Array Value} (hB : Below w.heap.size w W) (hown : W.ownsRow base e size v n xs) (hE : Ext [] W W5)
    (hown6 : W6.ownsRow base e size v' n' xs') (hgr : W5.grownBy W6 v.ownBlock) (hsz : base ≤ W.heap.size) (hbb : b < base) (hwb : w.heap.size ≤ b) (hblk : W.heap[b]? = some (.cells cs t (0, 0))) :
    Below w.heap.size w (W6.setCell ⟨b, i, none⟩ u) ∧ base ≤ (W6.setCell ⟨b, i, none⟩ u).heap.size ∧ (W6.setCell ⟨b, i, none⟩ u).ownsRow base e size v' n' xs' ∧
      (W6.setCell ⟨b, i, none⟩ u).heap[b]? = some (.cells (cs.setIfInBounds i u) t (0, 0)) ∧ ∀ c, c < base → c ≠ b → (W6.setCell ⟨b, i, none⟩ u).heap[c]? = W.heap[c]? := by
  obtain ⟨h1, h2, h3⟩ := ap_push0 hB hown hE hown6 hgr (by omega) hsz
  refine ⟨h1.setCell hwb u, by simpa [World.setCell] using h2, owns_ext (Ms := [b]) hown6 (ext_set W6 ⟨b, i, none⟩ u) (by simpa using hbb), set_block ((h3 b hbb).trans hblk) u, fun c hc hne => ?_⟩
  exact (Below.heap_setCell _ _ _ _ hne).trans (h3 c hc)

/-- The cells of a block, read. -/
theorem cells_of_block {W : World} {b : Nat} {cs : Array Value} {t : TypeId} (h : W.heap[b]? = some (.cells cs t (0, 0))) : (∀ i, W.cell? ⟨b, i, none⟩ = cs[i]?) ∧ (∀ i, W.frozen? ⟨b, i, none⟩ = false) ∧ b < W.heap.size :=
  ⟨fun i => by simp [World.cell?, h], fun i => frozen_of_block h i, (Array.getElem?_eq_some_iff.1 h).1⟩

theorem contains_at {l : List Int} {n : Int} {k : Nat} (hk : k < l.length) (h : l.getD k 0 = n) : l.contains n = true := by
  have e : l.getD k 0 = l[k] := by simp [List.getD, hk]
  rw [e] at h
  rw [← h]
  simp

theorem contains_not {l : List Int} {n : Int} (h : ∀ j, j < l.length → l.getD j 0 ≠ n) : l.contains n = false := by
  cases hc : l.contains n
  · rfl
  · have hm : n ∈ l := by simpa using hc
    obtain ⟨k, hk, rfl⟩ := List.getElem_of_mem hm
    exact absurd (by simp [List.getD, hk]) (h k hk)

theorem pairCells_snoc (R : List Rng) (r : Rng) : pairCells (R ++ [r]) = pairCells R ++ pairCells [r] := by simp [pairCells]

theorem all_of_at {α : Type} {l : List α} {p : α → Bool} {d : α} (h : ∀ j, j < l.length → p (l.getD j d) = true) : l.all p = true := by
  rw [List.all_eq_true]
  intro x hx
  obtain ⟨k, hk, rfl⟩ := List.getElem_of_mem hx
  have := h k hk
  rwa [show l.getD k d = l[k] from by simp [List.getD, hk]] at this

theorem owns_ext' {w w' : World} {base : Nat} {e : TypeId} {size : Nat} {v : Value} {n : Nat} {xs : List Value} (h : w.ownsRow base e size v n xs) {Ms : List Nat} (hE : Ext Ms w w') (hM : ∀ x ∈ Ms, v.ownBlock ≠ some x) : w'.ownsRow base e size v n xs :=
  owns_keep h fun g hg => hE.block g (owns_ge h g hg).2 fun hm => hM g hm hg

theorem pow_bd {k P : Nat} (h : k ≤ P) : (1 : Int) ≤ 2 ^ k ∧ (2 : Int) ^ k ≤ 2 ^ P := by
  have h1 : 2 ^ k ≤ 2 ^ P := Nat.pow_le_pow_right (by omega) h
  have h2 : 1 ≤ 2 ^ k := Nat.one_le_two_pow
  exact ⟨by exact_mod_cast h2, by exact_mod_cast h1⟩

/-- It returns a list that reads so; nothing that was there has turned. -/
def PInts (l : List Int) (w : World) (e : Ending) (w' : World) : Prop := ∃ v, e = .returned v ∧ IntsAt w' v l ∧ Below w.heap.size w w'

theorem bit_at (n p : Nat) : (((n / 2 ^ p : Nat) : Int) % 2 == 1) = n.testBit p := by
  rw [Nat.testBit_eq_decide_div_mod_eq, Bool.eq_iff_iff, beq_iff_eq, decide_eq_true_eq]
  generalize n / 2 ^ p = d
  omega

theorem intCells_app (l : List Int) (x : Int) : intCells (l ++ [x]) = intCells l ++ intCells [x] := by simp [intCells]

end Go.Proofs.Ytechgmnkcijahaa


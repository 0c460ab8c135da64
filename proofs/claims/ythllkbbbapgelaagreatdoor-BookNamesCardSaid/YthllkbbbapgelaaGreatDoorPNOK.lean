/-
  A law's arguments, opened: lines, a byte; what the listed variables give (Env); a start that meets the condition; the wrap.
-/
import Derived.WalkKit
import Derived.WalkLawsBesides
import Derived.WalkSpells
import Derived.Outline
import Derived.Handy
import Derived.KernelRfl
import Derived.Lib.Hide
import Derived.Test.YthllkbbbapgelaaGreatDoorRows
import Derived.ChangeArms
import Derived.ChangeVars
import Derived.Handed
import Derived.LaidMore
import Derived.LaidHandle
import Derived.LaidLaws
import Derived.ProofKit
import Derived.MakeChecks
import Derived.Lib.LaidTab
import Derived.Stop.LaidErr
import Derived.Stop.Joined
import Derived.SizedLaws
import Derived.Test.YthllkbbbapgelaaGreatDoorPN15
open Go.Proofs.Z Go.Proofs.Z.Bk
namespace Go.Proofs.YthllkbbbapgelaaGreatDoor.Bk
open Go.RowKit Go.RG Go.SL gK Go.Deep Go.ChangeShapes Go.WideShapes Go.ChangeAt
set_option maxHeartbeats 400000
set_option maxRecDepth 100000

section
variable {H : Type} {enc : TypeId × Value → H} {P : Program} {W : World} {base b0 : Nat} {spare : Nat → Bool} {held : Bool} {r : Reach}

/-- A slice's length, by its weight. -/
theorem Uy {t e : TypeId} (ht : P.underlying t = some (.slice e)) {fuel : Nat} {o : Option Addr} {n c : Nat} {x : DataW H × List MemPlace} (h : DataW.trod enc P W base spare held fuel t [.slice o n c] = some x) {B : Nat} (hB : ∀ y ∈ x.1.weights P t, y ≤ B) :
    n * P.bytesOf e ≤ B := by
  rcases open_slice ht h with ⟨hc, _⟩ | ⟨a, len, cap, m, k, D, Pl, hc, _, _, _, _, hx, _⟩
  · cases hc
    simp
  · cases hc
    subst hx
    have := hB ((n + (m - n)) * P.bytesOf e) (by simp [DataW.weights, ht])
    exact Nat.le_trans (Nat.mul_le_mul_right _ (Nat.le_add_right _ _)) this
theorem acT : Tryz.prog.bytesOf 9 = 16 := by kernel_rfl
/-- How many lines there can be. -/
theorem aav {o : Option Addr} {n c : Nat} {d : DataW H} {p : List MemPlace} {B : Nat} (hd : DataW.Trod enc Tryz.prog W base spare held 22 (.slice o n c) d p) (hB : ∀ y ∈ d.weights Tryz.prog 22, y ≤ B) : n * 16 ≤ B := by
  obtain ⟨fuel, hd⟩ := hd
  have := Uy (x := (d, p)) Tryz.underlying22 hd hB
  rw [acT] at this
  exact this
theorem agL : Tryz.prog.cellsOf 9 = 1 := by kernel_rfl
/-- A string, opened. -/
theorem aeg {v : Value} {d : DataW H} {p : List MemPlace} (hok : Value.okWide Tryz.prog W r b0 9 v) (h : DataW.Trod enc Tryz.prog W base spare held 9 v d p) : ∃ s : ay, v = .string (dS s) := by
  have hok' : Cell.ok Tryz.prog W r b0 9 v := by
    simpa [Value.okWide, Tryz.underlying9, Cell.okWide] using hok
  cases v <;> simp_all [Cell.ok, Tryz.underlying9]
  rename_i s
  exact ⟨s.data.toList, by simp [dS]⟩
/-- amK, opened. -/
theorem abl {v : Value} {d : DataW H} {p : List MemPlace} (hok : Value.okWide Tryz.prog W r b0 22 v) (h : DataW.Trod enc Tryz.prog W base spare held 22 v d p) : ∃ l : List ay, iK W v l := by
  have hok' : Cell.ok Tryz.prog W r b0 22 v := by
    simpa [Value.okWide, Tryz.underlying22, Cell.okWide] using hok
  obtain ⟨o, n, c, rfl⟩ : ∃ o n c, v = .slice o n c := by
    cases v <;> simp_all [Cell.ok, Tryz.underlying22]
  obtain ⟨fuel, hf⟩ := h
  obtain ⟨l, hl⟩ := Rw (fun s : ay => [Value.string (dS s)]) 1 (by omega) (fun _ => rfl) Tryz.underlying22 agL (fun fuel cs x hx => by
    obtain ⟨s, rfl, _⟩ := DataW.trod_string Tryz.underlying9 hx
    exact ⟨s.data.toList, by simp [dS]⟩) hok' hf
  have e : ∀ l : List ay, bz l = l.flatMap fun s => [Value.string (dS s)] := by
    intro l
    induction l with
    | nil => rfl
    | cons a l ih => simp only [bz, List.map_cons, List.flatMap_cons, List.singleton_append] at ih ⊢; rw [ih]
  exact ⟨l, by show aH 1 W _ l.length (bz l); rw [e]; exact hl⟩
end

theorem uM {P : Program} {W : World} {nm : String} {cs : Array Value} (h : W.var? P nm = some cs) {g : Nat} (hn : P.globalNamed nm = some g) : ∃ t f, W.heap[g]? = some (.cells cs t f) := by
  unfold World.var? at h
  simp only [hn, Option.bind_some] at h
  split at h
  · rename_i c t f hb
    exact ⟨t, f, by rw [hb, Option.some.inj h]⟩
  · cases h
theorem star : "*" ++ "errors.errorString" = "*errors.errorString" := by decide
theorem Gm : ∀ u, Tryz.prog.typeName? 3 u = some "*errors.errorString" → u = 420 := by
  exact fun u h => typeName_ptr_named (nm := "errors.errorString") (by rw [star]; kernel_rfl) (by kernel_rfl) (by decide) u (by rw [star]; exact h)
def GQ : List (String × DataW Unit) := Rows.bookWritesRow.laid
/-- What the condition gives: the variables' cells. -/
theorem lt_of_cell {W : World} {b o : Nat} {v : Value} (h : W.cell? ⟨b, o, none⟩ = some v) : b < W.heap.size := by
  unfold World.cell? at h
  apply Classical.byContradiction
  intro hn
  have : W.heap[b]? = none := Array.getElem?_eq_none (by omega)
  simp [this] at h
theorem acF {W : World} (h : laidMetH Tryz.prog GQ W) (hs : W.ShapedOpen Tryz.prog) : Env W := by
  rw [MakeChecks.laidMetH_plain _ _ _ (by kernel_rfl)] at h
  have h2 := h.tail.tail
  have h4 := h2.tail.tail
  have h5 := h4.tail
  have hT := Lib.tabIs_of_head (k := .u64) (zs := Lib.pow10Tab) (t := 361) (e := 310) (n := 20) (g := 0) (by kernel_rfl) (by kernel_rfl) Tryz.underlying361 Tryz.underlying310 (by kernel_rfl) (by kernel_rfl) h2
  obtain ⟨t0, f0, hp⟩ := uM hT (g := 0) (by kernel_rfl)
  obtain ⟨m, hm⟩ := Go.Proofs.cell_of_shapedOpen_int (g := 1) (zero := #[.int .i64 0]) (t := 3) hs (of_decide_eq_true (by kernel_rfl)) (by kernel_rfl) rfl (by kernel_rfl) (by kernel_rfl) Tryz.underlying3
  obtain ⟨a4, s4, k4, _⟩ := laid_sentinel (g := 3) (ti := 113) (tp := 420) (te := 422) (ts := 9) h4 (by kernel_rfl) (by kernel_rfl) Tryz.underlying113 (Gm) Tryz.underlying420 Tryz.underlying422 rfl rfl Tryz.underlying9 (by kernel_rfl) (by kernel_rfl)
  obtain ⟨a5, s5, k5, _⟩ := laid_sentinel (g := 2) (ti := 113) (tp := 420) (te := 422) (ts := 9) h5 (by kernel_rfl) (by kernel_rfl) Tryz.underlying113 (Gm) Tryz.underlying420 Tryz.underlying422 rfl rfl Tryz.underlying9 (by kernel_rfl) (by kernel_rfl)
  obtain ⟨t3, f3, hr⟩ := uM k4 (g := 3) (by kernel_rfl)
  obtain ⟨t2, f2, hy⟩ := uM k5 (g := 2) (by kernel_rfl)
  exact ⟨⟨t0, f0, hp⟩, ⟨m, hm, lt_of_cell hm⟩, ⟨_, _, t2, f2, hy⟩, ⟨_, _, t3, f3, hr⟩⟩
/-! ### A start that meets the condition -/
def aiE : DataW Unit → Value
  | .lit (.int k n) => .int k n
  | _ => .bool false
def ako : DataW Unit → Array Value
  | .agg l => (l.map aiE).toArray
  | _ => #[]
noncomputable def aiC : Nat := (Tryz.prog.globalNamed ((GQ.getLast?.map (·.1)).getD "")).getD 0
noncomputable def Nf (os : Os) : World :=
  { World.doorLaid Tryz.prog 72 os with heap := (World.doorLaid Tryz.prog 72 os).heap.modify aiC fun
      | .cells _ t frozen => .cells (ako Rows.laid_unicode_utf8_first) t frozen
      | o => o }
theorem Q7 (os : Os) (args : Array Value) : laidMetH Tryz.prog GQ ((Nf os).forCall (fun _ _ => 0) ⟨#[], args, []⟩).memory :=
  laidMetH_of_parts3 (fuel := 8) (laidMet_of_run' 8 (by kernel_rfl) (by kernel_rfl)) (by kernel_rfl) (by kernel_rfl)
/-- The wrap: the contract may use both what is listed and the world's shape. -/
theorem IB {H : Type} {enc : TypeId × Value → H} {a : Assume} {C : Checked} {os : Os} {f : FuncId} {fn : Func} {s : ChangeSpec} {conds : List PathCond} {apart fresh handsOn again : Bool} {X : World → Array Value → Prop}
    (hX : ∀ (w w' : World) (args : Array Value), w.heap = w'.heap → X w args → X w' args)
    (own : ownKnob C.prog.godebug = none) (started : os.Started) (noInit : C.prog.inits.idxOf? f = none) (hfn : C.prog.funcs[f]? = some fn)
    (witness : ∃ (w : World) (tape : Tape) (i : Input), w.os = os ∧ (w.forCall tape i).Shaped C.prog ∧ i.vars = [] ∧ Input.okWide C.prog (w.forCall tape i) .any w.heap.size f i ∧
      ((s.pre enc C.prog fn conds apart (w.forCall tape i).memory i.args ∧ X (w.forCall tape i).memory i.args) ∧ sizedMet enc C.prog fn (OpenSpec.ofChange s) apart (w.forCall tape i).memory i.args) ∧ a.holds C.prog (lone (Frame.enter C.prog f i.args .normal) [] (w.forCall tape i)))
    (contract : ∀ (W : World) (base : Nat) (args : Array Value) (ds gs : List (DataW H)) (before : List MemPlace),
      (∀ (j : Nat) t v, fn.params[j]? = some t → args[j]? = some v → Value.okWide C.prog W .any base t v) →
      DataW.Whole enc C.prog fn.params.toList s.vars apart W args.toList ds gs before →
      (DataW.weightsEach C.prog (fn.params.toList ++ s.plain.varTypes C.prog) (ds ++ gs)).all (· ≤ reachBytes) = true → X W args → W.ShapedOpen C.prog →
      Calls C.prog f args W fun e W' => ∃ v, e = .returned v ∧ s.post enc C.prog fn apart fresh handsOn again W args v W') :
    ReturnsInHanded a C os f .any (fun w args => (s.pre enc C.prog fn conds apart w args ∧ X w args) ∧ sizedMet enc C.prog fn (OpenSpec.ofChange s) apart w args) (s.post enc C.prog fn apart fresh handsOn again) := by
  refine returnsInHanded_of_calls own started noInit witness ?_
  intro w tape i _ hsh _ hok hpre _
  obtain ⟨_, _, _, fn', hfn', _, _, _, _, hval⟩ := hok
  obtain rfl : fn' = fn := Option.some.inj (hfn'.symm.trans hfn)
  obtain ⟨⟨⟨ds, gs, before, hw, _⟩, hx⟩, hz⟩ := hpre
  refine (contract (w.forCall tape i) w.heap.size i.args ds gs before hval (DataW.Whole.of_heap (w' := w.forCall tape i) (by rfl) hw) (hz.weights hw) (hX _ _ _ (by rfl) hx) hsh).mono fun e W' ⟨v, he, hp⟩ => ?_
  subst he
  exact ChangeSpec.post_blind hp
end Go.Proofs.YthllkbbbapgelaaGreatDoor.Bk

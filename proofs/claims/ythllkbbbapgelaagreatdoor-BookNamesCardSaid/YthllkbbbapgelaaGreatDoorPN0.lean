/-
  Short names for laws of the kit and of the library, written by a program.
-/
import Derived.KernelRfl
import Derived.Lib.Hide
import Derived.Below
import Derived.Tactics
import Derived.Test.YthllkbbbapgelaaGreatDoorProg
theorem ϑ {P:Prop} (h:P:=by omega):P:=h
theorem ϕ {P:Prop} (h:P:=by simp):P:=h
theorem ϰ {P:Prop} (h:P:=by kernel_rfl):P:=h
theorem ϱ {P:Prop} (h:P:=by rfl):P:=h
theorem ϖ {P:Prop} (h:P:=by decide):P:=h
theorem ϗ {P:Prop} (h:P:=by simp;omega):P:=h
namespace Go
open RowKit
abbrev Ϙ (w W:World):=Below w.heap.size w W
abbrev Ϛ (P:Program) (f:FuncId):=∀ (args:Array Value) (w:World),(callFunc f args).run P w=.ok (.enter f args) w
open Proofs in
abbrev Ϝ:=Calls Tryz.prog
end Go
theorem eG : type_of% @List.take_succ_eq_append_getElem := @List.take_succ_eq_append_getElem
theorem jk : type_of% @Array.all_eq_true_iff_forall_mem := @Array.all_eq_true_iff_forall_mem
theorem jl : type_of% @List.eq_nil_of_length_eq_zero := @List.eq_nil_of_length_eq_zero
theorem lJ : type_of% @List.take_append_of_le_length := @List.take_append_of_le_length
theorem yE : type_of% @Array.getD_eq_getD_getElem? := @Array.getD_eq_getD_getElem?
theorem aN : type_of% @Array.getElem?_eq_some_iff := @Array.getElem?_eq_some_iff
theorem fK : type_of% @List.getD_eq_getElem?_getD := @List.getD_eq_getElem?_getD
theorem mD : type_of% @List.getElem?_append_right := @List.getElem?_append_right
theorem nC : type_of% @List.setIfInBounds_toArray := @List.setIfInBounds_toArray
theorem iy : type_of% @List.getElem?_eq_some_iff := @List.getElem?_eq_some_iff
theorem sD : type_of% @List.getElem?_append_left := @List.getElem?_append_left
theorem uO : type_of% @Array.getElem?_eq_getElem := @Array.getElem?_eq_getElem
theorem su : type_of% @List.drop_eq_getElem_cons := @List.drop_eq_getElem_cons
theorem dn : type_of% @List.getElem?_eq_getElem := @List.getElem?_eq_getElem
theorem dB : type_of% @Go.World.block_lt_of_cell? := @Go.World.block_lt_of_cell?
theorem ji : type_of% @List.take_of_length_le := @List.take_of_length_le
theorem qX : type_of% @List.mem_append_right := @List.mem_append_right
theorem nZ : type_of% @List.set_append_right := @List.set_append_right
theorem gX : type_of% @Go.World.cell?_of_block := @Go.World.cell?_of_block
theorem lg : type_of% @List.mem_of_getElem? := @List.mem_of_getElem?
theorem mq : type_of% @List.mem_append_left := @List.mem_append_left
theorem jS : type_of% @Array.mem_toList_iff := @Array.mem_toList_iff
theorem mi : type_of% @List.mem_of_mem_take := @List.mem_of_mem_take
theorem nY : type_of% @List.mem_cons_of_mem := @List.mem_cons_of_mem
theorem ES : type_of% @beq_eq_false_iff_ne := @beq_eq_false_iff_ne
theorem jA : type_of% @List.append_toArray := @List.append_toArray
theorem lK : type_of% @List.getElem_of_mem := @List.getElem_of_mem
theorem sw : type_of% @List.flatMap_append := @List.flatMap_append
theorem cu : type_of% @List.length_append := @List.length_append
theorem bV : type_of% @Go.RowKit.Below.heap_setCell := @Go.RowKit.Below.heap_setCell
theorem dX : type_of% @List.mem_singleton := @List.mem_singleton
theorem eF : type_of% @Nat.lt_of_lt_of_le := @Nat.lt_of_lt_of_le
theorem dh : type_of% @Option.mem_toList := @Option.mem_toList
theorem dZ : type_of% @decide_eq_true_eq := @decide_eq_true_eq
theorem jy : type_of% @List.push_toArray := @List.push_toArray
theorem jg : type_of% @List.append_assoc := @List.append_assoc
theorem nX : type_of% @List.getElem?_map := @List.getElem?_map
theorem pE : type_of% @List.take_add_one := @List.take_add_one
theorem aT : type_of% @Go.RowKit.Below.heap_alloc := @Go.RowKit.Below.heap_alloc
theorem bZ : type_of% @List.getElem_mem := @List.getElem_mem
theorem bA : type_of% @Go.World.size_alloc := @Go.World.size_alloc
theorem dU : type_of% @Bool.and_eq_true := @Bool.and_eq_true
theorem fJ : type_of% @List.length_take := @List.length_take
theorem jh : type_of% @List.all_eq_true := @List.all_eq_true
theorem jR : type_of% @List.length_drop := @List.length_drop
theorem nW : type_of% @List.mem_flatMap := @List.mem_flatMap
theorem gq : type_of% @List.mem_append := @List.mem_append
theorem iJ : type_of% @Option.some.inj := @Option.some.inj
theorem kJ : type_of% @List.length_map := @List.length_map
theorem nV : type_of% @List.length_set := @List.length_set
theorem jQ : type_of% @List.mem_range := @List.mem_range
theorem aW : type_of% @List.Mem.head := @List.Mem.head
theorem eQ : type_of% @List.mem_cons := @List.mem_cons
theorem jf : type_of% @List.Mem.tail := @List.Mem.tail
theorem eU : type_of% @Nat.le_trans := @Nat.le_trans
theorem gW : type_of% @List.mem_map := @List.mem_map
theorem kZ : type_of% @Nat.le_of_lt := @Nat.le_of_lt
theorem ah : type_of% @Nat.le_refl := @Nat.le_refl
theorem bE : type_of% @Nat.zero_le := @Nat.zero_le
theorem aF : type_of% @Go.RowKit.Below.refl := @Go.RowKit.Below.refl
theorem af : type_of% @And.intro := @And.intro
theorem aa : type_of% @Go.Lib.hid := @Go.Lib.hid
theorem ak : type_of% @if_neg := @if_neg
theorem aG : type_of% @if_pos := @if_pos
theorem Go.RowKit.Hid.o {p : Prop} (h : Go.RowKit.Hid p) : p := h.out
theorem au {A : Type} : type_of% (@List.getElem_cons_zero A) /\ type_of% (@List.getElem_cons_succ A) := ⟨@List.getElem_cons_zero A, @List.getElem_cons_succ A⟩
theorem dw {A : Type} : type_of% (@List.getD_cons_zero A) /\ type_of% (@List.getD_cons_succ A) := ⟨@List.getD_cons_zero A, @List.getD_cons_succ A⟩

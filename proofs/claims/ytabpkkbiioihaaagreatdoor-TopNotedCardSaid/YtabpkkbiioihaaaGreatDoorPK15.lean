/-
  Texts of this claim, packed by a program: DP DQ DR DS DT DU DW DV DX DY DZ EA EB EC OG.
-/
import Derived.WalkKit
import Derived.WalkLawsBesides
import Derived.WalkSpells
import Derived.Outline
import Derived.Handy
import Derived.KernelRfl
import Derived.Lib.Hide
import Derived.Lib.SliceRun
import Derived.Deep.Cut
import Derived.Lib.AtoiAllCases
import Derived.Lib.SplitLaws
import Derived.Lib.IndexBytes
import Derived.Defers
import Derived.Recover
import Derived.Laws.Pointers
import Derived.Laws.Tables
import Derived.Lib.BufferWrite
import Derived.Laws.CopyOwn
import Derived.Deep.Slices
import Derived.Carry
import Derived.Test.YtabpkkbiioihaaaGreatDoorPK8
import Derived.Test.YtabpkkbiioihaaaGreatDoorPK14
set_option maxHeartbeats 8000000
set_option maxRecDepth 100000
set_option linter.all false
section
namespace Go.Proofs.YtabpkkbiioihaaaGreatDoor.Bk
open Go.RowKit Go.RG Go.SL Go.Shelf gZ Go.TB Go.Proofs.YtabpkkbiioihaaaGreatDoor.xH
theorem adK:fD Tryz.prog 35 34 (rv (0,0)) 2 16:=⟨Tryz.underlying35,by kernel_rfl,rfl,by omega⟩
theorem EZ (n:Nat) (xs:List Value) (v:Value) (w:World) (hv:aB 5 w v n xs) (h1: ∀u∈xs,u.oneCell'=true) (hlen:n<=1000):
 Calls Tryz.prog 85 #[v] w (BD 122 5 n xs w):=by
 obtain⟨o,c,rfl⟩:=aB.open hv
 have HV:=Lib.hid hv
 have H1:=Lib.hid h1
 clear h1
 have hnil:=fun(w:World) a n c=>Lib.run_eql_slice_nil (P:=Tryz.prog) w 27 122 a n c 0 0 Tryz.underlying27
 cases o with
 |none=>
  obtain⟨hl,o,c',h0,h1,h2,h3,h4⟩:=hv
  cases h0
  obtain rfl:c=0:=h3 rfl
  obtain rfl:n=0:=by omega
  have hx:xs=[]:=List.eq_nil_of_length_eq_zero (by simpa using hl)
  subst hx
  clear HV H1
  go_enter Tryz.func85,Tryz.ntmps85
  go_wp2
  go_returns
  exact⟨.slice none 0 0,by simp,⟨by simp,.inl ⟨rfl,rfl⟩⟩,Below.refl _ _⟩
 |some a=>
  obtain⟨b,off,sp⟩:=a
  obtain rfl:sp=none:=by
   obtain⟨_,o,c',h0,h1,h2,h3,h4⟩:=hv
   cases h0
   exact(h4 _ rfl).1
  clear hv
  go_enter Tryz.func85,Tryz.ntmps85
  go_wp2_with (at_builtin;refine dY rfl _ _ QT rfl w.heap.size (.slice (some ⟨w.heap.size,0,none⟩) 0 0) 0 [] rfl ?_ (.slice (some ⟨b,off,none⟩) n c) n xs rfl ?_ H1.out (by omega) (by omega) (by simp) ?_)
  ·exact owns_block (cs:= #[]) (n:=0) (ag _ _) rfl (Nat.le_refl _) (by decide)
  ·exact aB.alloc HV.out _
  ·intro v' w1 hown hgrow
   have HO:=Lib.hid hown
   have HG:=Lib.hid hgrow
   clear hown hgrow
   go_wp2
   go_returns
   refine⟨v',by simp,?_,?_⟩
   ·exact HO.out
   ·exact Below.grown (af (Below.refl _ _) _) HG.out (by simp) (fun k e=>by cases e;exact Nat.le_refl _)
theorem Bq (n:Nat) (xs:List Value) (v:Value) (w:World) (hv:aB 3 w v n xs) (h1: ∀u∈xs,u.oneCell'=true) (hlen:n<=1000):
 Calls Tryz.prog 86 #[v] w (BD 151 3 n xs w):=by
 obtain⟨o,c,rfl⟩:=aB.open hv
 have HV:=Lib.hid hv
 have H1:=Lib.hid h1
 clear h1
 have hnil:=fun(w:World) a n c=>Lib.run_eql_slice_nil (P:=Tryz.prog) w 31 151 a n c 0 0 Tryz.underlying31
 cases o with
 |none=>
  obtain⟨hl,o,c',h0,h1,h2,h3,h4⟩:=hv
  cases h0
  obtain rfl:c=0:=h3 rfl
  obtain rfl:n=0:=by omega
  have hx:xs=[]:=List.eq_nil_of_length_eq_zero (by simpa using hl)
  subst hx
  clear HV H1
  go_enter Tryz.func86,Tryz.ntmps86
  go_wp2
  go_returns
  exact⟨.slice none 0 0,by simp,⟨by simp,.inl ⟨rfl,rfl⟩⟩,Below.refl _ _⟩
 |some a=>
  obtain⟨b,off,sp⟩:=a
  obtain rfl:sp=none:=by
   obtain⟨_,o,c',h0,h1,h2,h3,h4⟩:=hv
   cases h0
   exact(h4 _ rfl).1
  clear hv
  go_enter Tryz.func86,Tryz.ntmps86
  go_wp2_with (at_builtin;refine dY rfl _ _ Vm rfl w.heap.size (.slice (some ⟨w.heap.size,0,none⟩) 0 0) 0 [] rfl ?_ (.slice (some ⟨b,off,none⟩) n c) n xs rfl ?_ H1.out (by omega) (by omega) (by simp) ?_)
  ·exact owns_block (cs:= #[]) (n:=0) (ag _ _) rfl (Nat.le_refl _) (by decide)
  ·exact aB.alloc HV.out _
  ·intro v' w1 hown hgrow
   have HO:=Lib.hid hown
   have HG:=Lib.hid hgrow
   clear hown hgrow
   go_wp2
   go_returns
   refine⟨v',by simp,?_,?_⟩
   ·exact HO.out
   ·exact Below.grown (af (Below.refl _ _) _) HG.out (by simp) (fun k e=>by cases e;exact Nat.le_refl _)
theorem EX (n:Nat) (xs:List Value) (v:Value) (w:World) (hv:aB 2 w v n xs) (h1: ∀u∈xs,u.oneCell'=true) (hlen:n<=1000):
 Calls Tryz.prog 87 #[v] w (BD 34 2 n xs w):=by
 obtain⟨o,c,rfl⟩:=aB.open hv
 have HV:=Lib.hid hv
 have H1:=Lib.hid h1
 clear h1
 have hnil:=fun(w:World) a n c=>Lib.run_eql_slice_nil (P:=Tryz.prog) w 35 34 a n c 0 0 Tryz.underlying35
 cases o with
 |none=>
  obtain⟨hl,o,c',h0,h1,h2,h3,h4⟩:=hv
  cases h0
  obtain rfl:c=0:=h3 rfl
  obtain rfl:n=0:=by omega
  have hx:xs=[]:=List.eq_nil_of_length_eq_zero (by simpa using hl)
  subst hx
  clear HV H1
  go_enter Tryz.func87,Tryz.ntmps87
  go_wp2
  go_returns
  exact⟨.slice none 0 0,by simp,⟨by simp,.inl ⟨rfl,rfl⟩⟩,Below.refl _ _⟩
 |some a=>
  obtain⟨b,off,sp⟩:=a
  obtain rfl:sp=none:=by
   obtain⟨_,o,c',h0,h1,h2,h3,h4⟩:=hv
   cases h0
   exact(h4 _ rfl).1
  clear hv
  go_enter Tryz.func87,Tryz.ntmps87
  go_wp2_with (at_builtin;refine dY rfl _ _ adK rfl w.heap.size (.slice (some ⟨w.heap.size,0,none⟩) 0 0) 0 [] rfl ?_ (.slice (some ⟨b,off,none⟩) n c) n xs rfl ?_ H1.out (by omega) (by omega) (by simp) ?_)
  ·exact owns_block (cs:= #[]) (n:=0) (ag _ _) rfl (Nat.le_refl _) (by decide)
  ·exact aB.alloc HV.out _
  ·intro v' w1 hown hgrow
   have HO:=Lib.hid hown
   have HG:=Lib.hid hgrow
   clear hown hgrow
   go_wp2
   go_returns
   refine⟨v',by simp,?_,?_⟩
   ·exact HO.out
   ·exact Below.grown (af (Below.refl _ _) _) HG.out (by simp) (fun k e=>by cases e;exact Nat.le_refl _)
theorem Bo (n:Nat) (xs:List Value) (v:Value) (w:World) (hv:aB 3 w v n xs) (h1: ∀u∈xs,u.oneCell'=true) (hlen:n<=1000):
 Calls Tryz.prog 89 #[v] w (BD 156 3 n xs w):=by
 obtain⟨o,c,rfl⟩:=aB.open hv
 have HV:=Lib.hid hv
 have H1:=Lib.hid h1
 clear h1
 have hnil:=fun(w:World) a n c=>Lib.run_eql_slice_nil (P:=Tryz.prog) w 37 156 a n c 0 0 Tryz.underlying37
 cases o with
 |none=>
  obtain⟨hl,o,c',h0,h1,h2,h3,h4⟩:=hv
  cases h0
  obtain rfl:c=0:=h3 rfl
  obtain rfl:n=0:=by omega
  have hx:xs=[]:=List.eq_nil_of_length_eq_zero (by simpa using hl)
  subst hx
  clear HV H1
  go_enter Tryz.func89,Tryz.ntmps89
  go_wp2
  go_returns
  exact⟨.slice none 0 0,by simp,⟨by simp,.inl ⟨rfl,rfl⟩⟩,Below.refl _ _⟩
 |some a=>
  obtain⟨b,off,sp⟩:=a
  obtain rfl:sp=none:=by
   obtain⟨_,o,c',h0,h1,h2,h3,h4⟩:=hv
   cases h0
   exact(h4 _ rfl).1
  clear hv
  go_enter Tryz.func89,Tryz.ntmps89
  go_wp2_with (at_builtin;refine dY rfl _ _ Vl rfl w.heap.size (.slice (some ⟨w.heap.size,0,none⟩) 0 0) 0 [] rfl ?_ (.slice (some ⟨b,off,none⟩) n c) n xs rfl ?_ H1.out (by omega) (by omega) (by simp) ?_)
  ·exact owns_block (cs:= #[]) (n:=0) (ag _ _) rfl (Nat.le_refl _) (by decide)
  ·exact aB.alloc HV.out _
  ·intro v' w1 hown hgrow
   have HO:=Lib.hid hown
   have HG:=Lib.hid hgrow
   clear hown hgrow
   go_wp2
   go_returns
   refine⟨v',by simp,?_,?_⟩
   ·exact HO.out
   ·exact Below.grown (af (Below.refl _ _) _) HG.out (by simp) (fun k e=>by cases e;exact Nat.le_refl _)
theorem E5 (n:Nat) (xs:List Value) (v:Value) (w:World) (hv:aB 2 w v n xs) (h1: ∀u∈xs,u.oneCell'=true) (hlen:n<=1000):
 Calls Tryz.prog 90 #[v] w (BD 103 2 n xs w):=by
 obtain⟨o,c,rfl⟩:=aB.open hv
 have HV:=Lib.hid hv
 have H1:=Lib.hid h1
 clear h1
 have hnil:=fun(w:World) a n c=>Lib.run_eql_slice_nil (P:=Tryz.prog) w 40 103 a n c 0 0 Tryz.underlying40
 cases o with
 |none=>
  obtain⟨hl,o,c',h0,h1,h2,h3,h4⟩:=hv
  cases h0
  obtain rfl:c=0:=h3 rfl
  obtain rfl:n=0:=by omega
  have hx:xs=[]:=List.eq_nil_of_length_eq_zero (by simpa using hl)
  subst hx
  clear HV H1
  go_enter Tryz.func90,Tryz.ntmps90
  go_wp2
  go_returns
  exact⟨.slice none 0 0,by simp,⟨by simp,.inl ⟨rfl,rfl⟩⟩,Below.refl _ _⟩
 |some a=>
  obtain⟨b,off,sp⟩:=a
  obtain rfl:sp=none:=by
   obtain⟨_,o,c',h0,h1,h2,h3,h4⟩:=hv
   cases h0
   exact(h4 _ rfl).1
  clear hv
  go_enter Tryz.func90,Tryz.ntmps90
  go_wp2_with (at_builtin;refine dY rfl _ _ aap rfl w.heap.size (.slice (some ⟨w.heap.size,0,none⟩) 0 0) 0 [] rfl ?_ (.slice (some ⟨b,off,none⟩) n c) n xs rfl ?_ H1.out (by omega) (by omega) (by simp) ?_)
  ·exact owns_block (cs:= #[]) (n:=0) (ag _ _) rfl (Nat.le_refl _) (by decide)
  ·exact aB.alloc HV.out _
  ·intro v' w1 hown hgrow
   have HO:=Lib.hid hown
   have HG:=Lib.hid hgrow
   clear hown hgrow
   go_wp2
   go_returns
   refine⟨v',by simp,?_,?_⟩
   ·exact HO.out
   ·exact Below.grown (af (Below.refl _ _) _) HG.out (by simp) (fun k e=>by cases e;exact Nat.le_refl _)
theorem E8 (n:Nat) (xs:List Value) (v:Value) (w:World) (hv:aB 1 w v n xs) (h1: ∀u∈xs,u.oneCell'=true) (hlen:n<=1000):
 Calls Tryz.prog 91 #[v] w (BD 36 1 n xs w):=by
 obtain⟨o,c,rfl⟩:=aB.open hv
 have HV:=Lib.hid hv
 have H1:=Lib.hid h1
 clear h1
 have hnil:=fun(w:World) a n c=>Lib.run_eql_slice_nil (P:=Tryz.prog) w 41 36 a n c 0 0 Tryz.underlying41
 cases o with
 |none=>
  obtain⟨hl,o,c',h0,h1,h2,h3,h4⟩:=hv
  cases h0
  obtain rfl:c=0:=h3 rfl
  obtain rfl:n=0:=by omega
  have hx:xs=[]:=List.eq_nil_of_length_eq_zero (by simpa using hl)
  subst hx
  clear HV H1
  go_enter Tryz.func91,Tryz.ntmps91
  go_wp2
  go_returns
  exact⟨.slice none 0 0,by simp,⟨by simp,.inl ⟨rfl,rfl⟩⟩,Below.refl _ _⟩
 |some a=>
  obtain⟨b,off,sp⟩:=a
  obtain rfl:sp=none:=by
   obtain⟨_,o,c',h0,h1,h2,h3,h4⟩:=hv
   cases h0
   exact(h4 _ rfl).1
  clear hv
  go_enter Tryz.func91,Tryz.ntmps91
  go_wp2_with (at_builtin;refine dY rfl _ _ aar rfl w.heap.size (.slice (some ⟨w.heap.size,0,none⟩) 0 0) 0 [] rfl ?_ (.slice (some ⟨b,off,none⟩) n c) n xs rfl ?_ H1.out (by omega) (by omega) (by simp) ?_)
  ·exact owns_block (cs:= #[]) (n:=0) (ag _ _) rfl (Nat.le_refl _) (by decide)
  ·exact aB.alloc HV.out _
  ·intro v' w1 hown hgrow
   have HO:=Lib.hid hown
   have HG:=Lib.hid hgrow
   clear hown hgrow
   go_wp2
   go_returns
   refine⟨v',by simp,?_,?_⟩
   ·exact HO.out
   ·exact Below.grown (af (Below.refl _ _) _) HG.out (by simp) (fun k e=>by cases e;exact Nat.le_refl _)
theorem EY (n:Nat) (xs:List Value) (v:Value) (w:World) (hv:aB 4 w v n xs) (h1: ∀u∈xs,u.oneCell'=true) (hlen:n<=1000):
 Calls Tryz.prog 92 #[v] w (BD 161 4 n xs w):=by
 obtain⟨o,c,rfl⟩:=aB.open hv
 have HV:=Lib.hid hv
 have H1:=Lib.hid h1
 clear h1
 have hnil:=fun(w:World) a n c=>Lib.run_eql_slice_nil (P:=Tryz.prog) w 42 161 a n c 0 0 Tryz.underlying42
 cases o with
 |none=>
  obtain⟨hl,o,c',h0,h1,h2,h3,h4⟩:=hv
  cases h0
  obtain rfl:c=0:=h3 rfl
  obtain rfl:n=0:=by omega
  have hx:xs=[]:=List.eq_nil_of_length_eq_zero (by simpa using hl)
  subst hx
  clear HV H1
  go_enter Tryz.func92,Tryz.ntmps92
  go_wp2
  go_returns
  exact⟨.slice none 0 0,by simp,⟨by simp,.inl ⟨rfl,rfl⟩⟩,Below.refl _ _⟩
 |some a=>
  obtain⟨b,off,sp⟩:=a
  obtain rfl:sp=none:=by
   obtain⟨_,o,c',h0,h1,h2,h3,h4⟩:=hv
   cases h0
   exact(h4 _ rfl).1
  clear hv
  go_enter Tryz.func92,Tryz.ntmps92
  go_wp2_with (at_builtin;refine dY rfl _ _ Vk rfl w.heap.size (.slice (some ⟨w.heap.size,0,none⟩) 0 0) 0 [] rfl ?_ (.slice (some ⟨b,off,none⟩) n c) n xs rfl ?_ H1.out (by omega) (by omega) (by simp) ?_)
  ·exact owns_block (cs:= #[]) (n:=0) (ag _ _) rfl (Nat.le_refl _) (by decide)
  ·exact aB.alloc HV.out _
  ·intro v' w1 hown hgrow
   have HO:=Lib.hid hown
   have HG:=Lib.hid hgrow
   clear hown hgrow
   go_wp2
   go_returns
   refine⟨v',by simp,?_,?_⟩
   ·exact HO.out
   ·exact Below.grown (af (Below.refl _ _) _) HG.out (by simp) (fun k e=>by cases e;exact Nat.le_refl _)
theorem wE (n:Nat) (xs:List Value) (v:Value) (w:World) (hv:aB 1 w v n xs) (h1: ∀u∈xs,u.oneCell'=true) (hlen:n<=1000):
 Calls Tryz.prog 88 #[v] w (BD 3 1 n xs w):=by
 obtain⟨o,c,rfl⟩:=aB.open hv
 have HV:=Lib.hid hv
 have H1:=Lib.hid h1
 clear h1
 have hnil:=fun(w:World) a n c=>Lib.run_eql_slice_nil (P:=Tryz.prog) w 36 3 a n c 0 0 Tryz.underlying36
 cases o with
 |none=>
  obtain⟨hl,o,c',h0,h1,h2,h3,h4⟩:=hv
  cases h0
  obtain rfl:c=0:=h3 rfl
  obtain rfl:n=0:=by omega
  have hx:xs=[]:=List.eq_nil_of_length_eq_zero (by simpa using hl)
  subst hx
  clear HV H1
  go_enter Tryz.func88,Tryz.ntmps88
  go_wp2
  go_returns
  exact⟨.slice none 0 0,by simp,⟨by simp,.inl ⟨rfl,rfl⟩⟩,Below.refl _ _⟩
 |some a=>
  obtain⟨b,off,sp⟩:=a
  obtain rfl:sp=none:=by
   obtain⟨_,o,c',h0,h1,h2,h3,h4⟩:=hv
   cases h0
   exact(h4 _ rfl).1
  clear hv
  go_enter Tryz.func88,Tryz.ntmps88
  go_wp2_with (at_builtin;refine dY rfl _ _ qo rfl w.heap.size (.slice (some ⟨w.heap.size,0,none⟩) 0 0) 0 [] rfl ?_ (.slice (some ⟨b,off,none⟩) n c) n xs rfl ?_ H1.out (by omega) (by omega) (by simp) ?_)
  ·exact owns_block (cs:= #[]) (n:=0) (ag _ _) rfl (Nat.le_refl _) (by decide)
  ·exact aB.alloc HV.out _
  ·intro v' w1 hown hgrow
   have HO:=Lib.hid hown
   have HG:=Lib.hid hgrow
   clear hown hgrow
   go_wp2
   go_returns
   refine⟨v',by simp,?_,?_⟩
   ·exact HO.out
   ·exact Below.grown (af (Below.refl _ _) _) HG.out (by simp) (fun k e=>by cases e;exact Nat.le_refl _)
def xO (s:gV) (V:SV) (n:Nat) (kc:List Value):List Row:=
 [⟨122,5,V.pM,s.led.field.ae.length,bM s.led.field.ae⟩,⟨151,3,V.MV,s.led.notes.length,aF s.led.notes⟩,
   ⟨34,2,V.bg,s.heap.bg.length,aj s.heap.bg⟩,⟨3,1,V.Qw,s.heap.turns.length,intCells s.heap.turns⟩,⟨156,3,V.Rh,s.heap.readings.length,aF s.heap.readings⟩,
   ⟨103,2,V.hps,s.bG.heaps.length,aj s.bG.heaps⟩,⟨36,1,V.Zj,n,kc⟩,⟨161,4,V.trs,s.bG.au.length,dR s.bG.au⟩]
theorem NT (s:gV) (V:SV) (es:List KE):eQ s V es=xO s V es.length (dw es)++es.map tN:=rfl
theorem NS (s:gV) (V:SV) (n:Nat) (kc kc':List Value) (X:List Row):(xO s V n kc++X).set 6 ⟨36,1,V.Zj,n,kc'⟩=xO s V n kc'++X:=rfl
theorem wV (s:gV) (V:SV) (n:Nat) (kc:List Value) (X:List Row):(xO s V n kc++X)[6]? =some ⟨36,1,V.Zj,n,kc⟩:=rfl
theorem Cc {w:World} {N:Nat} {t:TypeId} {size:Nat} {v:Value} {n:Nat} {xs:List Value} (h:w.ownsRow N t size v n xs) {g:Nat} (hg:v.ownBlock=some g): ∃cur,w.heap[g]? =some (.cells cur t (0,0)):=by
 obtain⟨h1,⟨rfl,h2⟩|⟨g',c,cs,rfl,hb,hc,h3⟩⟩:=h
 ·cases hg
 ·cases hg;exact⟨cs,hc⟩
theorem qG.Rz {N:Nat} {w:World} {bx:Nat} {R:List Row} (hbx:bx<w.heap.size) (hN:N<=bx) (hown: ∀r∈R,w.ownsRow (bx+1) r.t r.size r.v r.n r.xs) (hnd:(R.map (·.t)).Nodup):qG N w bx R where
 own i r hr:=bH (hown r (List.mem_of_getElem? hr)) (by omega)
 apart i j a b ha hb hij:=by
  rcases hq:a.v.ownBlock with _|g
  ·exact .inl rfl
  ·refine .inr fun e=>?_
   obtain⟨c1,h1⟩:=Cc (hown a (List.mem_of_getElem? ha)) hq
   obtain⟨c2,h2⟩:=Cc (hown b (List.mem_of_getElem? hb)) e.symm
   rw[h1] at h2
   have ht:a.t=b.t:=by injection h2 with h2;injection h2
   refine hij ((List.getElem?_inj (i:=i) (j:=j) (by simpa using(List.getElem?_eq_some_iff.1 ha).1:i<(R.map (·.t)).length) hnd).1 ?_)
   rw[List.getElem?_map,List.getElem?_map,ha,hb,Option.map_some,Option.map_some,ht]
 off i r hr e:=by
  have:=((hown r (List.mem_of_getElem? hr)).lt bx e).1
  omega
 lt:=hbx
 base:=hN
theorem qG.move {N:Nat} {w W:World} {bx wb:Nat} {R:List Row} (h:qG N w bx R) (hE:Ext [] w W) (hwb:w.heap.size<=wb) (hlt:wb<W.heap.size):qG N W wb R where
 own i r hr:=ah (h.own i r hr) hE (by simp)
 apart:=h.apart
 off i r hr e:=by have:=((h.own i r hr).lt wb e).2;omega
 lt:=hlt
 base:=by have:=h.base;have:=h.lt;omega
theorem Vw {w:World} {v:Value} {es:List KE} (h:qH w v es): ∀u∈dw es,u.oneCell'=true:=by
 intro u hu
 obtain⟨e,he,rfl⟩:=List.mem_map.1 hu
 obtain⟨o,c,hv⟩:=aB.open (h.2 e he)
 rw[hv];rfl
theorem yN (s:gV) (V:SV) (es:List KE) (w:World) (hS:kP w s V es) (hG:Good s):Calls Tryz.prog 46 #[.agg (bV s V)] w
 (fun e w'=>Below w.heap.size w w'/\ ∃wb V' es',e= .returned (.pointer (some ⟨wb,0,none⟩))/\gU w.heap.size w' wb s V' es'):=by
 obtain⟨vt,vn,vw,vu,vr,vh,vk,vs⟩:=V
 have HS:Hid (∀W,Below w.heap.size w W->kP W s ⟨vt,vn,vw,vu,vr,vh,vk,vs⟩ es):=Lib.hid (fun W hb=>hS.below hb (Nat.le_refl _))
 have hek:es.length=s.bG.aC.length:=hS.bG.len
 have iM:=Lib.hid (Vw hS.bG.aC)
 have HG:=Lib.hid hG
 have hl5:=hG.yz
 have hn5:=hG.notes
 have hw5:=hG.QL
 have EF:=hG.reads
 have hh3:=hG.LK
 have hk3:=hG.aC
 have ht5:=hG.au
 have U1:s.heap.turns.length<=5:=by obtain⟨p,hp⟩:=hG.turns;rw[hp];exact xk p
 have hke:es.length<=3:=by omega
 have hwl:s.heap.bg.length<=5:=by omega
 have HEK:=Lib.hid hek
 clear hS hG hek hw5
 go_enter Tryz.func46,Tryz.ntmps46
 go_wp2_with fail
 refine dD fun W1 hW1=>?_
 have hb1:W1.heap[w.heap.size]? =some (.cells (bV s ⟨vt,vn,vw,vu,vr,vh,vk,vs⟩) 46 (0,0)):=by rw[hW1];exact ag _ _
 have HB1:=Lib.hid (show Below w.heap.size w W1 from by rw[hW1];exact af (Below.refl _ _) _)
 have hsz1:w.heap.size<W1.heap.size:=(Array.getElem?_eq_some_iff.1 hb1).1
 obtain⟨c1,f1,l1⟩:=cells_of_block hb1
 have U7:=Lib.hid hb1
 clear hW1 hb1
 refine RX.dM (fun _ _=>False) 10 [] none [(5,⟨fun _ v=> ∃o c,v= .slice o s.led.field.ae.length c,fun _ v Wx=>Wx.ownsRow W1.heap.size 122 5 v s.led.field.ae.length (bM s.led.field.ae)⟩),(9,⟨fun _ v=> ∃o c,v= .slice o s.led.notes.length c,fun _ v Wx=>Wx.ownsRow W1.heap.size 151 3 v s.led.notes.length (aF s.led.notes)⟩)] (by rintro ps a1 Wx hdf h;exact h.elim) (by as_aux_lemma=>kernel_rfl) (by as_aux_lemma=>kernel_rfl) ?_
 simp only[zt]
 repeat (refine RX.zd ?_;simp only[zp])
 refine RX.aP _ (by rfl) (by rfl) (by exact⟨.slice none (s.led.field.ae.length) 0,none,0,rfl⟩) (fun Wq hE hF=>?_) (fun v Wa Wb ho hE=>?_) (fun v hv=>?_)
 ·have hE':Ext [] W1 Wq:=hE
  refine RX.bU 85 #[vt] (by go_simp;try rfl) ?_
  refine(EZ (s.led.field.ae.length) (bM s.led.field.ae) vt Wq (HS.out Wq (aH HB1.out hE'.below)).pM (xU _) (by omega)).mono ?_
  rintro e w' ⟨v',rfl,ho,hb⟩
  exact .inl ⟨_,rfl,aA ho,bH ho hE'.size,Ext.of_below hb⟩
 ·exact ah (Ms:=[]) ho hE (by simp)
 obtain⟨xW,yj,rfl⟩:=hv
 simp only[zp]
 repeat (refine RX.zd ?_;simp only[zp])
 refine RX.aP _ (by rfl) (by rfl) (by exact⟨.slice none (s.led.notes.length) 0,none,0,rfl⟩) (fun Wq hE hF=>?_) (fun v Wa Wb ho hE=>?_) (fun v hv=>?_)
 ·have hE':Ext [] W1 Wq:=hE
  refine RX.bU 86 #[vn] (by go_simp;try rfl) ?_
  refine(Bq (s.led.notes.length) (aF s.led.notes) vn Wq (HS.out Wq (aH HB1.out hE'.below)).MV (nZ _) (by omega)).mono ?_
  rintro e w' ⟨v',rfl,ho,hb⟩
  exact .inl ⟨_,rfl,aA ho,bH ho hE'.size,Ext.of_below hb⟩
 ·exact ah (Ms:=[]) ho hE (by simp)
 obtain⟨xX,yl,rfl⟩:=hv
 simp only[zp]
 repeat (refine RX.zd ?_;simp only[zp])
 intro Wt hE hF
 have Ti:Wt.ownsRow W1.heap.size 151 3 (.slice xX s.led.notes.length yl) s.led.notes.length (aF s.led.notes):=hF _ (List.Mem.head _)
 have Td:Wt.ownsRow W1.heap.size 122 5 (.slice xW s.led.field.ae.length yj) s.led.field.ae.length (bM s.led.field.ae):=hF _ (List.Mem.tail _ (List.Mem.head _))
 have hE':Ext [] W1 Wt:=hE
 have HBt:=Lib.hid (aH HB1.out hE'.below)
 have hbt:=(hE'.block _ l1 (by simp)).trans U7.out
 have HKt:=Lib.hid hbt
 have Qz:=Lib.hid hE'
 obtain⟨ct,ft,lt⟩:=cells_of_block hbt
 clear hE hF hE' hbt c1 f1
 have uS:=Lib.hid Td
 have uT:=Lib.hid Ti
 clear Td Ti
 go_upto_region 3 with(fail)
 refine dD fun W2 kU=>?_
 have hbk:W2.heap[w.heap.size]? =some (.cells (bV s ⟨.slice xW s.led.field.ae.length yj,.slice xX s.led.notes.length yl,vw,vu,vr,vh,vk,vs⟩) 46 (0,0)):=by rw[kU];exact ak (ak (HKt.out) _) _
 have HB2:=Lib.hid (show Below w.heap.size w W2 from by rw[kU];exact((HBt.out).setCell (Nat.le_refl _) _).setCell (Nat.le_refl _) _)
 have hEs:Ext [w.heap.size] Wt W2:=by rw[kU];exact(dO).trans dO
 have uS:=Lib.hid (bH (base:=W1.heap.size) (ah (Ms:=[w.heap.size]) uS.out hEs (by simp;exact hsz1)) (Nat.le_refl _))
 have uT:=Lib.hid (bH (base:=W1.heap.size) (ah (Ms:=[w.heap.size]) uT.out hEs (by simp;exact hsz1)) (Nat.le_refl _))
 have hsz2:W1.heap.size<=W2.heap.size:=by have:=hEs.size;have:=Qz.out.size;omega
 obtain⟨c2,f2,l2⟩:=cells_of_block hbk
 have XO:=Lib.hid hbk
 clear kU hbk hEs ct ft
 refine RX.dM (fun _ _=>False) 12 [] none [(3,⟨fun _ v=> ∃o c,v= .slice o s.heap.bg.length c,fun _ v Wx=>Wx.ownsRow W2.heap.size 34 2 v s.heap.bg.length (aj s.heap.bg)⟩),(7,⟨fun _ v=> ∃o c,v= .slice o s.heap.turns.length c,fun _ v Wx=>Wx.ownsRow W2.heap.size 3 1 v s.heap.turns.length (intCells s.heap.turns)⟩),(11,⟨fun _ v=> ∃o c,v= .slice o s.heap.readings.length c,fun _ v Wx=>Wx.ownsRow W2.heap.size 156 3 v s.heap.readings.length (aF s.heap.readings)⟩)] (by rintro ps a1 Wx hdf h;exact h.elim) (by as_aux_lemma=>kernel_rfl) (by as_aux_lemma=>kernel_rfl) ?_
 simp only[zt]
 repeat (refine RX.zd ?_;simp only[zp])
 refine RX.aP _ (by rfl) (by rfl) (by exact⟨.slice none (s.heap.bg.length) 0,none,0,rfl⟩) (fun Wq hE hF=>?_) (fun v Wa Wb ho hE=>?_) (fun v hv=>?_)
 ·have hE':Ext [] W2 Wq:=hE
  refine RX.bU 87 #[vw] (by go_simp;try rfl) ?_
  refine(EX (s.heap.bg.length) (aj s.heap.bg) vw Wq (HS.out Wq (aH HB2.out hE'.below)).bg (kT _) (by omega)).mono ?_
  rintro e w' ⟨v',rfl,ho,hb⟩
  exact .inl ⟨_,rfl,aA ho,bH ho hE'.size,Ext.of_below hb⟩
 ·exact ah (Ms:=[]) ho hE (by simp)
 obtain⟨zq,Ae,rfl⟩:=hv
 simp only[zp]
 repeat (refine RX.zd ?_;simp only[zp])
 refine RX.aP _ (by rfl) (by rfl) (by exact⟨.slice none (s.heap.turns.length) 0,none,0,rfl⟩) (fun Wq hE hF=>?_) (fun v Wa Wb ho hE=>?_) (fun v hv=>?_)
 ·have hE':Ext [] W2 Wq:=hE
  refine RX.bU 88 #[vu] (by go_simp;try rfl) ?_
  refine(wE (s.heap.turns.length) (intCells s.heap.turns) vu Wq (HS.out Wq (aH HB2.out hE'.below)).Qw (iT _) (by omega)).mono ?_
  rintro e w' ⟨v',rfl,ho,hb⟩
  exact .inl ⟨_,rfl,aA ho,bH ho hE'.size,Ext.of_below hb⟩
 ·exact ah (Ms:=[]) ho hE (by simp)
 obtain⟨zu,Af,rfl⟩:=hv
 simp only[zp]
 repeat (refine RX.zd ?_;simp only[zp])
 refine RX.aP _ (by rfl) (by rfl) (by exact⟨.slice none (s.heap.readings.length) 0,none,0,rfl⟩) (fun Wq hE hF=>?_) (fun v Wa Wb ho hE=>?_) (fun v hv=>?_)
 ·have hE':Ext [] W2 Wq:=hE
  refine RX.bU 89 #[vr] (by go_simp;try rfl) ?_
  refine(Bo (s.heap.readings.length) (aF s.heap.readings) vr Wq (HS.out Wq (aH HB2.out hE'.below)).Rh (nZ _) (by omega)).mono ?_
  rintro e w' ⟨v',rfl,ho,hb⟩
  exact .inl ⟨_,rfl,aA ho,bH ho hE'.size,Ext.of_below hb⟩
 ·exact ah (Ms:=[]) ho hE (by simp)
 obtain⟨zx,Ag,rfl⟩:=hv
 simp only[zp]
 repeat (refine RX.zd ?_;simp only[zp])
 intro Wt hE hF
 have Tf:Wt.ownsRow W2.heap.size 156 3 (.slice zx s.heap.readings.length Ag) s.heap.readings.length (aF s.heap.readings):=hF _ (List.Mem.head _)
 have S9:Wt.ownsRow W2.heap.size 3 1 (.slice zu s.heap.turns.length Af) s.heap.turns.length (intCells s.heap.turns):=hF _ (List.Mem.tail _ (List.Mem.head _))
 have SY:Wt.ownsRow W2.heap.size 34 2 (.slice zq s.heap.bg.length Ae) s.heap.bg.length (aj s.heap.bg):=hF _ (List.Mem.tail _ (List.Mem.tail _ (List.Mem.head _)))
 have hE':Ext [] W2 Wt:=hE
 have HBt:=Lib.hid (aH HB2.out hE'.below)
 have hbt:=(hE'.block _ l2 (by simp)).trans XO.out
 have HKt:=Lib.hid hbt
 have Qz:=Lib.hid hE'
 obtain⟨ct,ft,lt⟩:=cells_of_block hbt
 clear hE hF hE' hbt c2 f2
 have Aw:=Lib.hid SY
 have Az:=Lib.hid S9
 have AA:=Lib.hid Tf
 clear SY S9 Tf
 go_upto_region 4 with(fail)
 refine dD fun W3 kU=>?_
 have hbk:W3.heap[w.heap.size]? =some (.cells (bV s ⟨.slice xW s.led.field.ae.length yj,.slice xX s.led.notes.length yl,.slice zq s.heap.bg.length Ae,.slice zu s.heap.turns.length Af,.slice zx s.heap.readings.length Ag,vh,vk,vs⟩) 46 (0,0)):=by rw[kU];exact ak (ak (ak (HKt.out) _) _) _
 have HB3:=Lib.hid (show Below w.heap.size w W3 from by rw[kU];exact(((HBt.out).setCell (Nat.le_refl _) _).setCell (Nat.le_refl _) _).setCell (Nat.le_refl _) _)
 have hEs:Ext [w.heap.size] Wt W3:=by rw[kU];exact((dO).trans dO).trans dO
 have uS:=Lib.hid (ah (Ms:=[w.heap.size]) (ah (Ms:=[]) uS.out Qz.out (by simp)) hEs (by simp;exact hsz1))
 have uT:=Lib.hid (ah (Ms:=[w.heap.size]) (ah (Ms:=[]) uT.out Qz.out (by simp)) hEs (by simp;exact hsz1))
 have Aw:=Lib.hid (bH (base:=W1.heap.size) (ah (Ms:=[w.heap.size]) Aw.out hEs (by simp;omega)) (by omega))
 have Az:=Lib.hid (bH (base:=W1.heap.size) (ah (Ms:=[w.heap.size]) Az.out hEs (by simp;omega)) (by omega))
 have AA:=Lib.hid (bH (base:=W1.heap.size) (ah (Ms:=[w.heap.size]) AA.out hEs (by simp;omega)) (by omega))
 have hsz3:W1.heap.size<=W3.heap.size:=by have:=hEs.size;have:=Qz.out.size;omega
 obtain⟨c3,f3,l3⟩:=cells_of_block hbk
 have HK3:=Lib.hid hbk
 clear kU hbk hEs ct ft
 refine RX.dM (fun _ _=>False) 12 [] none [(3,⟨fun _ v=> ∃o c,v= .slice o s.bG.heaps.length c,fun _ v Wx=>Wx.ownsRow W3.heap.size 103 2 v s.bG.heaps.length (aj s.bG.heaps)⟩),(7,⟨fun _ v=> ∃o c,v= .slice o es.length c,fun _ v Wx=>Wx.ownsRow W3.heap.size 36 1 v es.length (dw es)⟩),(11,⟨fun _ v=> ∃o c,v= .slice o s.bG.au.length c,fun _ v Wx=>Wx.ownsRow W3.heap.size 161 4 v s.bG.au.length (dR s.bG.au)⟩)] (by rintro ps a1 Wx hdf h;exact h.elim) (by as_aux_lemma=>kernel_rfl) (by as_aux_lemma=>kernel_rfl) ?_
 simp only[zt]
 repeat (refine RX.zd ?_;simp only[zp])
 refine RX.aP _ (by rfl) (by rfl) (by exact⟨.slice none (s.bG.heaps.length) 0,none,0,rfl⟩) (fun Wq hE hF=>?_) (fun v Wa Wb ho hE=>?_) (fun v hv=>?_)
 ·have hE':Ext [] W3 Wq:=hE
  refine RX.bU 90 #[vh] (by go_simp;try rfl) ?_
  refine(E5 (s.bG.heaps.length) (aj s.bG.heaps) vh Wq (HS.out Wq (aH HB3.out hE'.below)).bG.heaps (kT _) (by omega)).mono ?_
  rintro e w' ⟨v',rfl,ho,hb⟩
  exact .inl ⟨_,rfl,aA ho,bH ho hE'.size,Ext.of_below hb⟩
 ·exact ah (Ms:=[]) ho hE (by simp)
 obtain⟨Ci,Dj,rfl⟩:=hv
 simp only[zp]
 repeat (refine RX.zd ?_;simp only[zp])
 refine RX.aP _ (by rfl) (by rfl) (by exact⟨.slice none (es.length) 0,none,0,rfl⟩) (fun Wq hE hF=>?_) (fun v Wa Wb ho hE=>?_) (fun v hv=>?_)
 ·have hE':Ext [] W3 Wq:=hE
  refine RX.bU 91 #[vk] (by go_simp;try rfl) ?_
  refine(E8 (es.length) (dw es) vk Wq (HS.out Wq (aH HB3.out hE'.below)).bG.aC.1 (iM.out) (by omega)).mono ?_
  rintro e w' ⟨v',rfl,ho,hb⟩
  exact .inl ⟨_,rfl,aA ho,bH ho hE'.size,Ext.of_below hb⟩
 ·exact ah (Ms:=[]) ho hE (by simp)
 obtain⟨zy,wF,rfl⟩:=hv
 simp only[zp]
 repeat (refine RX.zd ?_;simp only[zp])
 refine RX.aP _ (by rfl) (by rfl) (by exact⟨.slice none (s.bG.au.length) 0,none,0,rfl⟩) (fun Wq hE hF=>?_) (fun v Wa Wb ho hE=>?_) (fun v hv=>?_)
 ·have hE':Ext [] W3 Wq:=hE
  refine RX.bU 92 #[vs] (by go_simp;try rfl) ?_
  refine(EY (s.bG.au.length) (dR s.bG.au) vs Wq (HS.out Wq (aH HB3.out hE'.below)).bG.au (Gp _) (by omega)).mono ?_
  rintro e w' ⟨v',rfl,ho,hb⟩
  exact .inl ⟨_,rfl,aA ho,bH ho hE'.size,Ext.of_below hb⟩
 ·exact ah (Ms:=[]) ho hE (by simp)
 obtain⟨Cf,Di,rfl⟩:=hv
 simp only[zp]
 repeat (refine RX.zd ?_;simp only[zp])
 intro Wt hE hF
 have Tc:Wt.ownsRow W3.heap.size 161 4 (.slice Cf s.bG.au.length Di) s.bG.au.length (dR s.bG.au):=hF _ (List.Mem.head _)
 have Tm:Wt.ownsRow W3.heap.size 36 1 (.slice zy es.length wF) es.length (dw es):=hF _ (List.Mem.tail _ (List.Mem.head _))
 have Tj:Wt.ownsRow W3.heap.size 103 2 (.slice Ci s.bG.heaps.length Dj) s.bG.heaps.length (aj s.bG.heaps):=hF _ (List.Mem.tail _ (List.Mem.tail _ (List.Mem.head _)))
 have hE':Ext [] W3 Wt:=hE
 have HBt:=Lib.hid (aH HB3.out hE'.below)
 have hbt:=(hE'.block _ l3 (by simp)).trans HK3.out
 have HKt:=Lib.hid hbt
 have Qz:=Lib.hid hE'
 obtain⟨ct,ft,lt⟩:=cells_of_block hbt
 clear hE hF hE' hbt c3 f3
 have MB:=Lib.hid Tj
 have MC:=Lib.hid Tm
 have Me:=Lib.hid Tc
 clear Tj Tm Tc
 go_upto_region 5 with(fail)
 refine dD fun W4 kU=>?_
 have hbk:W4.heap[w.heap.size]? =some (.cells (bV s ⟨.slice xW s.led.field.ae.length yj,.slice xX s.led.notes.length yl,.slice zq s.heap.bg.length Ae,.slice zu s.heap.turns.length Af,.slice zx s.heap.readings.length Ag,.slice Ci s.bG.heaps.length Dj,.slice zy es.length wF,.slice Cf s.bG.au.length Di⟩) 46 (0,0)):=by rw[kU];exact ak (ak (ak (HKt.out) _) _) _
 have HB4:=Lib.hid (show Below w.heap.size w W4 from by rw[kU];exact(((HBt.out).setCell (Nat.le_refl _) _).setCell (Nat.le_refl _) _).setCell (Nat.le_refl _) _)
 have hEs:Ext [w.heap.size] Wt W4:=by rw[kU];exact((dO).trans dO).trans dO
 have uS:=Lib.hid (ah (Ms:=[w.heap.size]) (ah (Ms:=[]) uS.out Qz.out (by simp)) hEs (by simp;exact hsz1))
 have uT:=Lib.hid (ah (Ms:=[w.heap.size]) (ah (Ms:=[]) uT.out Qz.out (by simp)) hEs (by simp;exact hsz1))
 have Aw:=Lib.hid (ah (Ms:=[w.heap.size]) (ah (Ms:=[]) Aw.out Qz.out (by simp)) hEs (by simp;exact hsz1))
 have Az:=Lib.hid (ah (Ms:=[w.heap.size]) (ah (Ms:=[]) Az.out Qz.out (by simp)) hEs (by simp;exact hsz1))
 have AA:=Lib.hid (ah (Ms:=[w.heap.size]) (ah (Ms:=[]) AA.out Qz.out (by simp)) hEs (by simp;exact hsz1))
 have MB:=Lib.hid (bH (base:=W1.heap.size) (ah (Ms:=[w.heap.size]) MB.out hEs (by simp;omega)) (by omega))
 have MC:=Lib.hid (bH (base:=W1.heap.size) (ah (Ms:=[w.heap.size]) MC.out hEs (by simp;omega)) (by omega))
 have Me:=Lib.hid (bH (base:=W1.heap.size) (ah (Ms:=[w.heap.size]) Me.out hEs (by simp;omega)) (by omega))
 have Yw:W1.heap.size<=W4.heap.size:=by have:=hEs.size;have:=Qz.out.size;omega
 obtain⟨c4,f4,l4⟩:=cells_of_block hbk
 have HK4:=Lib.hid hbk
 clear kU hbk hEs ct ft
 have hR0:qG w.heap.size W4 w.heap.size (xO s ⟨.slice xW s.led.field.ae.length yj,.slice xX s.led.notes.length yl,.slice zq s.heap.bg.length Ae,.slice zu s.heap.turns.length Af,.slice zx s.heap.readings.length Ag,.slice Ci s.bG.heaps.length Dj,.slice zy es.length wF,.slice Cf s.bG.au.length Di⟩ es.length (dw es)):=by
  refine qG.Rz (by have:=HB4.out.size;omega) (Nat.le_refl _) ?_ (by simp[xO])
  intro r hr
  simp only[xO,List.mem_cons,List.not_mem_nil,or_false] at hr
  rcases hr with rfl|rfl|rfl|rfl|rfl|rfl|rfl|rfl
  ·exact bH uS.out (by omega)
  ·exact bH uT.out (by omega)
  ·exact bH Aw.out (by omega)
  ·exact bH Az.out (by omega)
  ·exact bH AA.out (by omega)
  ·exact bH MB.out (by omega)
  ·exact bH MC.out (by omega)
  ·exact bH Me.out (by omega)
 have HR0:=Lib.hid hR0
 clear hR0
 go_wp2_with fail
 go_loopw [4,5,58] (fun _ _ u wr=> ∃i:Nat,i<=es.length/\u= .int .i64 i/\Below w.heap.size w wr/\wr.heap[w.heap.size]? =some (.cells (bV s ⟨.slice xW s.led.field.ae.length yj,.slice xX s.led.notes.length yl,.slice zq s.heap.bg.length Ae,.slice zu s.heap.turns.length Af,.slice zx s.heap.readings.length Ag,.slice Ci s.bG.heaps.length Dj,.slice zy es.length wF,.slice Cf s.bG.au.length Di⟩) 46 (0,0))/\ ∃es':List KE,es'.length=i/\es'.map (·.2)=s.bG.aC.take i/\qG w.heap.size wr w.heap.size (xO s ⟨.slice xW s.led.field.ae.length yj,.slice xX s.led.notes.length yl,.slice zq s.heap.bg.length Ae,.slice zu s.heap.turns.length Af,.slice zx s.heap.readings.length Ag,.slice Ci s.bG.heaps.length Dj,.slice zy es.length wF,.slice Cf s.bG.au.length Di⟩ es.length (dw (es'++es.drop i))++es'.map tN)) (fun _ _ u _=>es.length-(intOf u).toNat)
 case atStart=>exact⟨0,Nat.zero_le _,rfl,HB4.out,HK4.out,[],rfl,rfl,by simpa using HR0.out⟩
 case round=>
  obtain⟨i,hi,rfl,hB,hbk,es',Bi,hes',hOr⟩:=hrel
  obtain⟨c5,f5,l5⟩:=cells_of_block hbk
  by_cases hlt:i<es.length
  ·have hcx:=HEK.out
   obtain⟨ev,el,xn⟩: ∃ev el,es[i]? =some (ev,el):=⟨_,_,List.getElem?_eq_getElem hlt⟩
   have hcas:s.bG.aC[i]? =some el:=by rw[<-(HS.out w (Below.refl _ _)).bG.is,List.getElem?_map,xn];rfl
   have aeM:el.length<=3:=by have:=(HG.out.kN el (List.mem_of_getElem? hcas)).1;omega
   have h6:wr.ownsRow w.heap.size 36 1 (.slice zy es.length wF) es.length (dw (es'++es.drop i)):=hOr.own 6 _ (wV _ _ _ _ _)
   obtain⟨gk,aeF,hgk,hfk,hkl⟩:=dU h6 (by omega)
   subst aeF
   have hgx:(dw (es'++es.drop i))[i]? =some ev:=by
    unfold dw
    rw[List.getElem?_map,List.getElem?_append_right (by omega),Bi,Nat.sub_self,List.getElem?_drop,Nat.add_zero,xn];rfl
   obtain⟨hg',eg'⟩:=List.getElem?_eq_some_iff.1 hgx
   have g6:=(hgk i hg').trans (by rw[eg'])
   have HX:=Lib.hid (And.intro hB (And.intro hbk (And.intro Bi (And.intro hes' (And.intro hOr (And.intro h6 (And.intro xn hcas)))))))
   have hgb:gk≠w.heap.size:=fun e=>hOr.off 6 _ (wV _ _ _ _ _) (by rw[<-e];rfl)
   clear hB hbk Bi hes' hOr h6 hgx hg' eg' hgk xn hcas hcx
   go_wp2_with fail
   refine RX.dM (fun _ _=>False) 6 [] none [(5,⟨fun _ v=> ∃o c,v= .slice o el.length c,fun _ v Wx=>Wx.ownsRow wr.heap.size 3 1 v el.length (intCells el)⟩)] (by rintro ps a1 Wx hdf h;exact h.elim) (by as_aux_lemma=>kernel_rfl) (by as_aux_lemma=>kernel_rfl) ?_
   simp only[zt]
   repeat (refine RX.zd ?_;simp only[zp])
   refine RX.aP _ (by rfl) (by rfl) (by exact⟨.slice none el.length 0,none,0,rfl⟩) (fun Wq hE hF=>?_) (fun v Wa Wb ho hE=>?_) (fun v hv=>?_)
   ·have hE':Ext [] wr Wq:=hE
    refine RX.bU 88 #[ev] (by go_simp;try rfl) ?_
    refine(wE el.length (intCells el) ev Wq ((HS.out Wq (aH HX.out.1 (show Below wr.heap.size wr Wq from hE'.below))).bG.aC.2 (ev,el) (List.mem_of_getElem? HX.out.2.2.2.2.2.2.1)) (iT _) (by omega)).mono ?_
    rintro e w' ⟨v',rfl,ho,hb⟩
    exact .inl ⟨_,rfl,aA ho,bH ho hE'.size,Ext.of_below hb⟩
   ·exact ah (Ms:=[]) ho hE (by simp)
   obtain⟨o8,c8,rfl⟩:=hv
   simp only[zp]
   intro W8 hE hF
   have lH:W8.ownsRow wr.heap.size 3 1 (.slice o8 el.length c8) el.length (intCells el):=hF _ (List.Mem.head _)
   have dZ:Ext [] wr W8:=hE
   have hbl:=(dZ.block _ l5 (by simp)).trans HX.out.2.1
   obtain⟨c9,f9,l9⟩:=cells_of_block hbl
   have hR1:=HX.out.2.2.2.2.1.push (tN (.slice o8 el.length c8,el)) dZ (by simp) (bH lH (by have:=HX.out.1.size;omega)) (by rcases hq:(Value.slice o8 el.length c8).ownBlock with _|g;(exact .inl hq);(exact .inr ⟨g,hq,(lH.lt g hq).1⟩))
   have h68:=ah (Ms:=[]) HX.out.2.2.2.2.2.1 dZ (by simp)
   obtain⟨gk',YR,aeG,aiL,aiz⟩:=dU h68 (by omega)
   cases YR
   have g7:=(dZ.cell gk i hkl (by simp)).trans g6
   have H8:=Lib.hid (And.intro dZ (And.intro hbl (And.intro hR1 h68)))
   clear hE hF lH dZ hbl hR1 h68 aeG c5 f5 g6 hfk
   go_wp2_with fail
   go_roundw
   case rel=>
    refine⟨i+1,by omega,by go_num,(aH HX.out.1 H8.out.1.below).setCell (H8.out.2.2.2.lt gk rfl).1 _,((dO (W:=W8) (b:=gk) (off:=i) (v:= .slice o8 el.length c8)).block _ l9 (by simpa using fun e=>hgb e.symm)).trans H8.out.2.1,es'++[(.slice o8 el.length c8,el)],by simp[HX.out.2.2.1],?_,?_⟩
    ·rw[List.map_append,HX.out.2.2.2.1,List.take_add_one,HX.out.2.2.2.2.2.2.2];rfl
    ·have hS:=jf H8.out.2.2.2 i (.slice o8 el.length c8)
     have hk2:(dw (es'++es.drop i)).set i (.slice o8 el.length c8)=dw (es'++[(.slice o8 el.length c8,el)]++es.drop (i+1)):=by
      unfold dw
      rw[List.map_append,List.set_append_right _ _ (by simp[HX.out.2.2.1]),List.length_map,HX.out.2.2.1,Nat.sub_self,List.drop_eq_getElem_cons hlt,List.map_cons,List.set_cons_zero]
      simp
     have hP:=H8.out.2.2.1.put (i:=6) (r:=⟨36,1,.slice (some ⟨gk,0,none⟩) es.length wF,es.length,dw (es'++es.drop i)⟩) (by rw[List.append_assoc];exact wV _ _ _ _ _) ⟨36,1,.slice (some ⟨gk,0,none⟩) es.length wF,es.length,dw (es'++[(.slice o8 el.length c8,el)]++es.drop (i+1))⟩ (dO (W:=W8) (b:=gk) (off:=i) (v:= .slice o8 el.length c8)) (fun m hm=> .inr (.inr (by rw[List.mem_singleton.1 hm];rfl))) (by rw[hk2] at hS;exact hS) (.inl rfl)
     rw[List.append_assoc,NS] at hP
     rw[List.map_append]
     exact hP
   case measure=>simp[intOf];omega
  ·obtain rfl:i=es.length:=by omega
   have HX:=Lib.hid (And.intro hB (And.intro hbk (And.intro Bi (And.intro hes' hOr))))
   clear hB hbk Bi hes' hOr
   go_upto_region 10 with(fail)
   refine wp_region_lit ?_
   refine wpList_load_row rfl _ _ rfl w.heap.size rfl _ _ _ _ HX.out.2.1 Tryz.underlying46 rfl (by kernel_rfl) ?_
   simp only[zp]
   clear c5 f5
   go_wp2_with fail
   trace_state
   go_returns
   refine⟨af HX.out.1 _,wr.heap.size,⟨.slice xW s.led.field.ae.length yj,.slice xX s.led.notes.length yl,.slice zq s.heap.bg.length Ae,.slice zu s.heap.turns.length Af,.slice zx s.heap.readings.length Ag,.slice Ci s.bG.heaps.length Dj,.slice zy es.length wF,.slice Cf s.bG.au.length Di⟩,es',by simp,⟨ag _ _,?_,?_⟩⟩
   ·have h:=HX.out.2.2.2.2
    rw[List.drop_length,List.append_nil] at h
    rw[NT,HX.out.2.2.1]
    exact h.move (Ext.of_below (af (Below.refl _ _) _)) (Nat.le_refl _) (by simp)
   ·rw[HX.out.2.2.2.1,List.take_of_length_le (by have:=HEK.out;omega)]
structure Env (w:World):Prop where
 pow: ∃t f,w.heap[5]? =some (.cells (Lib.pow10Tab.map fun z=>Value.int .u64 z).toArray t f)
 len: ∃m,w.cell? ⟨0,0,none⟩=some (.int .i64 m)/\0<w.heap.size
 syn: ∃tp p t f,w.heap[1]? =some (.cells #[.iface tp p] t f)
 rng: ∃tp p t f,w.heap[2]? =some (.cells #[.iface tp p] t f)
theorem Env.lts {w:World} (h:Env w):5<w.heap.size/\0<w.heap.size/\1<w.heap.size/\2<w.heap.size:=by
 obtain⟨t,f,h0⟩:=h.pow
 obtain⟨m,h1,hl⟩:=h.len
 obtain⟨tp,p,t2,f2,h2⟩:=h.syn
 obtain⟨tp3,p3,t3,f3,h3⟩:=h.rng
 exact⟨(Array.getElem?_eq_some_iff.1 h0).1,hl,(Array.getElem?_eq_some_iff.1 h2).1,(Array.getElem?_eq_some_iff.1 h3).1⟩
theorem Env.below {w W:World} (h:Env w) {B:Nat} (hb:Below B w W) (hB:w.heap.size<=B):Env W:=by
 have h4:=h.lts
 have hz:=hb.size
 obtain⟨t,f,h0⟩:=h.pow
 obtain⟨m,h1,hl⟩:=h.len
 obtain⟨tp,p,t2,f2,h2⟩:=h.syn
 obtain⟨tp3,p3,t3,f3,h3⟩:=h.rng
 exact⟨⟨t,f,(hb.block 5 (by omega)).trans h0⟩,⟨m,(World.cell?_of_block (hb.block 0 (by omega))).trans h1,by omega⟩,⟨tp,p,t2,f2,(hb.block 1 (by omega)).trans h2⟩,⟨tp3,p3,t3,f3,(hb.block 2 (by omega)).trans h3⟩⟩
theorem Jy {w:World} {g:Nat} {cs:Array Value} {t:TypeId} {f:Nat×Nat} (h:w.heap[g]? =some (.cells cs t f)) {nm:String} (hn:Tryz.prog.globalNamed nm=some g):w.var? Tryz.prog nm=some cs:=by
 simp[World.var?,hn,h]
theorem Wn {w:World} (h:Env w) {nm:String} (hn:Tryz.prog.globalNamed nm=some 5):Lib.TabIs Tryz.prog w nm .u64 Lib.pow10Tab:=by
 obtain⟨t,f,h0⟩:=h.pow
 exact Jy h0 hn
abbrev dW (l:Bytes):ByteArray:=⟨l.toArray⟩
theorem bytesWorld_below (w:World) (t:TypeId) (s:ByteArray):Below w.heap.size w (Lib.bytesWorld w t s):=by
 unfold Lib.bytesWorld
 refine⟨rfl,rfl,rfl,?_,fun i hi=>?_⟩
 ·simp[World.freeze]
 ·have:w.heap.size≠i:=by omega
  simp[World.freeze,Array.getElem?_modify,this]
  exact heap_alloc_old _ _ hi
theorem KT (w:World) (k:Nat) (os:Array Obj):Below w.heap.size w (Go.Sort.grow (w.drewN k) os):=by
 refine⟨rfl,rfl,rfl,by simp[Go.Sort.grow,World.drewN],fun i hi=>?_⟩
 rw[Go.Sort.heap_grow_old _ _ (by simpa [World.drewN] using hi)]
 rfl
theorem Ur (l:Bytes) (w:World) (hE:Env w) (hl:l.length<=1000):Calls Tryz.prog 83 #[.string (dW l)] w
 (fun e w'=>Below w.heap.size w w'/\((∃v,Lib.atoiAll l= .ok v/\e= .returned (.tuple #[iv v,.nilIface]))∨((∀v,Lib.atoiAll l≠ .ok v)/\ ∃v t p,e= .returned (.tuple #[iv v,.iface t p])))):=by
 have hs:(dW l).size=l.length:=by simp[dW,ByteArray.size]
 cases ha:Lib.atoiAll l with
 |ok v=>
  refine(Go.Proofs.Tryz.strconv_Atoi_ok (dW l) (by rw[hs];omega) v ha w).mono ?_
  rintro e w' ⟨rfl,h|⟨t,h⟩⟩
  ·subst h;exact⟨Below.refl _ _,.inl ⟨v,rfl,rfl⟩⟩
  ·subst h;exact⟨bytesWorld_below _ _ _,.inl ⟨v,rfl,rfl⟩⟩
 |range=>
  obtain⟨tp,p,t2,f2,h2⟩:=hE.rng
  refine(Go.Proofs.Tryz.strconv_Atoi_range_var (dW l) (by rw[hs];omega) ha tp p w (Jy h2 (by kernel_rfl))).mono ?_
  rintro e w' ⟨M,rfl,h1,h2,h3⟩
  exact⟨h3,.inr ⟨(fun v h=>by cases h),_,_,_,rfl⟩⟩
 |_=>
  obtain⟨tp,p,t2,f2,h2⟩:=hE.syn
  refine(Go.Proofs.Tryz.strconv_Atoi_syntax_var (dW l) (by rw[hs];omega) ha tp p w (Jy h2 (by kernel_rfl))).mono ?_
  rintro e w' ⟨M,rfl,h1,h2,h3⟩
  exact⟨h3,.inr ⟨(fun v h=>by cases h),_,_,_,rfl⟩⟩
theorem RN {l:Bytes} (h: ∀v,Lib.atoiAll l≠ .ok v):jb l=none:=by
 cases hn:jb l with
 |none=>rfl
 |some v=>
  have h4:=(yG hn).2
  have:=Lib.atoiAll_short l (by omega)
  rw[yt hn] at this
  exact absurd this (h v)
theorem zB {l:Bytes} {v n:Int} (h:Lib.atoiAll l= .ok v) (hn:jb l=some n):v=n:=by
 have h4:=(yG hn).2
 have:=Lib.atoiAll_short l (by omega)
 rw[yt hn,h] at this
 injection this
def aft (l:Bytes) (w:World) (e:Ending) (w':World):Prop:=Below w.heap.size w w'/\ ∃v,e= .returned (.tuple #[iv v,.bool (jb l).isSome])/\ ∀n,jb l=some n->v=n
theorem J5 (l:Bytes) (w:World) (hE:Env w) (hl:l.length<=1000):Calls Tryz.prog 45 #[.string (dW l)] w (aft l w):=by
 have hs:(dW l).size=l.length:=by simp[dW,ByteArray.size]
 have HA:=Lib.hid (Ur l w hE hl)
 have HE:=Lib.hid hE
 clear hE
 go_enter Tryz.func45,Tryz.ntmps45
 go_wp2_with fail
 refine HA.out.mono ?_
 rintro e w1 ⟨hb,⟨v,hv,rfl⟩|⟨hno,v,t,p,rfl⟩⟩
 ·have HB:=Lib.hid hb
  have HV:=Lib.hid hv
  clear hb hv
  by_cases h0:0<=v
  ·by_cases h4:l.length<=4
   ·have h5:(l.length:Int)<=4:=by omega
    go_wp2_with fail
    refine(Go.Proofs.Tryz.strconv_Itoa v (by omega) (by have:=(Lib.atoiAll_bounds HV.out).2;omega) w1 (Wn (HE.out.below HB.out (Nat.le_refl _)) (by kernel_rfl))).mono ?_
    rintro e w2 ⟨rfl,k,os,rfl⟩
    have HG:=Lib.hid (KT w1 k os)
    obtain⟨w3,hw3⟩: ∃w3,w3=Go.Sort.grow (w1.drewN k) os:=⟨_,rfl⟩
    rw[<-hw3] at HG⊢
    clear hw3
    go_wp2_with fail
    go_returns
    refine⟨aH HB.out HG.out,v,?_,fun n hn=>zB HV.out hn⟩
    by_cases he:Lib.itoa v=l
    ·rw[Gw h0 h4 he];simp[he]
    ·have hn:jb l=none:=by
      cases hn:jb l with
      |none=>rfl
      |some n=>exact absurd (zB HV.out hn▸SB hn) he
     rw[hn]
     have:(Lib.itoa v==l)=false:=by simpa using he
     simp[this]
   ·have h5: ¬(l.length:Int)<=4:=by omega
    go_wp2_with fail
    go_returns
    refine⟨HB.out,v,?_,fun n hn=>zB HV.out hn⟩
    have hn:jb l=none:=by
     cases hn:jb l with
     |none=>rfl
     |some n=>exact absurd (yG hn).2 h4
    rw[hn];simp
  ·go_wp2_with fail
   go_returns
   refine⟨HB.out,v,?_,fun n hn=>zB HV.out hn⟩
   have hn:jb l=none:=by
    cases hn:jb l with
    |none=>rfl
    |some n=>have h1:=zB HV.out hn;have h2:=(Eh hn).1;omega
   rw[hn];simp
 ·have HB:=Lib.hid hb
  have HN:=Lib.hid (RN hno)
  clear hb hno
  go_wp2_with fail
  go_returns
  exact⟨HB.out,v,by rw[HN.out];simp,fun n hn=>by rw[HN.out] at hn;cases hn⟩
theorem D8: ∀l:Bytes,Lib.splitK [32] 0 (Lib.count l [32]) l=aS l:=by
 intro l
 induction l with
 |nil=>rfl
 |cons c l ih=>
  by_cases hc:c=32
  ·subst hc
   rw[Lib.count_cons_eq,Nat.add_comm,Lib.splitK,Lib.index_one,Lib.indexByte,aS,if_pos rfl]
   simp[ih]
  ·rw[Lib.count_cons_ne c 32 l hc,aS,if_neg hc]
   cases hk:Lib.count l [32] with
   |zero=>
    rw[hk] at ih
    rw[<-ih]
    rfl
   |succ k=>
    rw[hk] at ih
    have hb:(c==32)=false:=by simpa using hc
    have hi:Lib.index l [32]≠ -1:=fun h=>by have:=Lib.count_miss h;omega
    have hge:=Lib.index_ge l [32]
    obtain⟨i,hi2⟩: ∃i:Nat,Lib.index l [32]=i:=⟨(Lib.index l [32]).toNat,by omega⟩
    have e1:(Lib.index l [32]== -1)=false:=by simpa using hi
    have hj:Lib.index (c::l) [32]=(i:Int)+1:=by
     rw[Lib.index_one,Lib.indexByte,hb, <-Lib.index_one,e1,hi2];rfl
    have e2:(Lib.index (c::l) [32]== -1)=false:=by rw[hj];simp;omega
    rw[Lib.splitK,e1] at ih
    rw[Lib.splitK,e2]
    simp only[Bool.false_eq_true,if_false,Nat.add_zero,List.length_singleton] at ih⊢
    rw[<-ih,hj,hi2]
    have h1:((i:Int)+1).toNat=i+1:=by omega
    rw[h1]
    simp
theorem xN (l:Bytes):(Lib.splitB ⟨#[32]⟩ 0 (Lib.countB (dW l) ⟨#[32]⟩) (dW l)).map (·.data.toList)=aS l:=by
 rw[Lib.splitB_data]
 exact D8 l
abbrev bT (ps:List Bytes):List Value:=ps.map fun p=> .string (dW p)
abbrev gI (w:World) (v:Value) (ps:List Bytes):Prop:=aB 1 w v ps.length (bT ps)
theorem PM (s:ByteArray):dW s.data.toList=s:=by cases s;simp[dW]
theorem NR (l:Bytes) (w:World) (hE:Env w) (hl:l.length<=1000):Calls Tryz.prog 42 #[.string (dW l),.string ⟨#[32]⟩] w
 (fun e w'=> ∃n,n=(aS l).length/\e= .returned (.slice (some ⟨w.heap.size,0,none⟩) n n)/\w'=w.alloc (.cells (bT (aS l)).toArray 9)):=by
 obtain⟨m,hm,_⟩:=hE.len
 have hs:(dW l).size=l.length:=by simp[dW,ByteArray.size]
 have hlen:=Lib.splitB_all ⟨#[32]⟩ (by decide) 0 _ (dW l) rfl
 refine(Go.Proofs.Tryz.strings_Split (dW l) ⟨#[32]⟩ m w (by rw[hs];omega) hm (by decide)).mono ?_
 rintro e w' ⟨rfl,rfl⟩
 refine⟨_,?_,rfl,?_⟩
 ·rw[<-xN,List.length_map,hlen]
 ·rw[<-xN]
  congr 3
  unfold bT
  rw[List.map_map]
  apply List.map_congr_left
  intro x _
  simp only[Function.comp,PM]
theorem catch_idle (x y z:Addr) (w:World):
 CallsD Tryz.prog 41 #[.pointer (some x),.pointer (some y),.pointer (some z)] .returning w fun e u' w'=>e= .returned (.tuple #[])/\u'= .returning/\w'=w:=by
 refine callsD_of_wpS Tryz.func41 rfl fun c₀ cs hu=>?_
 apply wpS_seq
 apply wpS_region
 simp[wpOpsS,go_sem,recoverD,hu,Tryz.ntmps41,Exit.thenS]
 refine wpS_of_wp ?_
 go_wp2
 cases c₀
 simp_all [bodyPostS,results,Tryz.results41]
theorem uq {P:Program} {o:Oper} {ρ:Operand->Value} {w:World} (ty:TypeId) (x:Operand) (ho:o.op= .load ty x)
 (g:Nat) (hx:ρ x= .pointer (some ⟨g,0,none⟩)) (t:TypeId) (cs:Array Value) (fr:Nat×Nat) (d:TypeDesc) (hg:w.heap[g]? =some (.cells cs t fr))
 (hu:P.underlying ty=some d) (hd:(match d with| .struct _| .array _ _=>true|_=>false)=true) (hi:(P.info? ty).map (·.size)=some cs.size):(execOp ρ o).run P w= .ok (.value (.agg cs)) w:=by
 unfold execOp
 simp only[ho,hx,Instr.loadAt,Instr.sureAddr,Sem.run_bind,Sem.run_pure,Result.andThen_ok,run_loadVar_row w g t ty cs fr d hg hu hd hi]
theorem rG {P:Program} {o:Oper} {ρ:Operand->Value} {w:World} (ty:TypeId) (x y:Operand) (ho:o.op= .store ty x y)
 (g:Nat) (cells:Array Value) (hx:ρ x= .pointer (some ⟨g,0,none⟩)) (hy:ρ y= .agg cells)
 (t:TypeId) (old:Array Value) (hg:w.heap[g]? =some (.cells old t (0,0))) (hi:(P.info? ty).map (·.size)=some cells.size)
 (hold:old.size=cells.size) (h1:cells.all (·.oneCell')=true):(execOp ρ o).run P w= .ok .skip (w.setRow g cells):=by
 unfold execOp
 simp only[ho,hx,hy,Instr.storeAt,Instr.sureAddr,Sem.run_bind,Sem.run_pure,Result.andThen_ok,run_storeVar_row w g t ty old cells hg hi hold h1]
theorem pF {P:Program} {o:Oper} {ρ:Operand->Value} {W W':World} {R:Value->World->Prop} (he:(execOp ρ o).run P W= .ok .skip W') (h:R undef W'):Does P o ρ W R:=by
 unfold Does;rw[he];exact h
theorem Am (v:Value) (w:World):(Instr.typeAssert (.iface 105 v) 20 105 true).run Tryz.prog w= .ok (.tuple #[v,.bool true]) w:=by
 have hu:Tryz.prog.underlying 105=_:=Tryz.underlying105
 simp[Instr.typeAssert,run_underlying hu,go_sem]
theorem Bv (bs ba be:Nat) (S:Array Value) (A:Array Value) (ec:Value) (code:Int) (w:World) (hS:w.heap[bs]? =some (.cells S 46 (0,0))) (hA:w.heap[ba]? =some (.cells A 46 (0,0))) (hE:w.heap[be]? =some (.cells #[ec] 48 (0,0)))
 (hsz:S.size=22) (hsa:A.size=22) (h1:bs≠ba) (h2:bs≠be) (h3:ba≠be) (hone: ∀u∈S.toList,u.oneCell'=true):
 CallsD Tryz.prog 41 #[.pointer (some ⟨bs,0,none⟩),.pointer (some ⟨ba,0,none⟩),.pointer (some ⟨be,0,none⟩)] (.panicking (refusal code)) w fun e u' w'=>
  e= .returned (.tuple #[])/\u'= .panicking [{v:= .iface 105 (.agg #[iv code]),recovered:=true}]/\Ext [ba,be] w w'/\w'.heap[ba]? =some (.cells S 46 (0,0))/\w'.heap[be]? =some (.cells #[iv code] 48 (0,0)):=by
 refine callsD_of_wpS Tryz.func41 rfl fun c₀ cs hu=>?_
 apply wpS_seq
 apply wpS_region
 have hta:=Am (.agg #[iv code]) w
 obtain⟨cS,fS,lS⟩:=cells_of_block hS
 obtain⟨cA,fA,lA⟩:=cells_of_block hA
 obtain⟨cE,fE,lE⟩:=cells_of_block hE
 simp[wpOpsS,go_sem,recoverD,hu,Tryz.ntmps41,Exit.thenS]
 refine wpS_of_wp ?_
 simp only[Array.replicate_succ,Array.replicate_zero,List.push_toArray,List.append_toArray,List.nil_append,List.cons_append,List.setIfInBounds_toArray,List.set_cons_succ,List.set_cons_zero]
 go_wp2
 refine dD fun W1 hW1=>?_
 have k1:W1.heap[w.heap.size]? =some (.cells #[iv code] 105 (0,0)):=by rw[hW1];exact ag _ _
 have kS:W1.heap[bs]? =some (.cells S 46 (0,0)):=by rw[hW1];exact(heap_alloc_old _ _ lS).trans hS
 have kA:W1.heap[ba]? =some (.cells A 46 (0,0)):=by rw[hW1];exact(heap_alloc_old _ _ lA).trans hA
 have kE:W1.heap[be]? =some (.cells #[ec] 48 (0,0)):=by rw[hW1];exact(heap_alloc_old _ _ lE).trans hE
 have hB1:Ext [] w W1:=by rw[hW1];exact Ext.of_below (af (Below.refl _ _) _)
 have hw1:w.heap.size<W1.heap.size:=(Array.getElem?_eq_some_iff.1 k1).1
 obtain⟨d1,g1,m1⟩:=cells_of_block k1
 have hne1:ba≠w.heap.size:=by omega
 have hne2:w.heap.size≠ba:=by omega
 clear hW1 hta cS fS cA fA cE fE
 refine zg 4 [ba] (some 3) [(3,⟨fun _ v=>v=undef,fun _ _ Wx=>Wx.heap[ba]? =some (.cells S 46 (0,0))⟩)] ?_
 simp only[zt]
 refine eG (by rfl) (.agg S) (by rfl) (fun W hE hF=>?_) ?_
 ·have hs:=(hE.block bs (by omega) (by simpa using h1)).trans kS
  exact uq _ _ rfl bs rfl _ _ _ _ hs Tryz.underlying46 rfl (by rw[hsz];kernel_rfl)
 simp only[zp]
 repeat ((first|refine zd ?_|refine zk ?_);simp only[zp])
 refine aP _ (by rfl) (by rfl) ⟨_,rfl⟩ (fun W hE hF=>?_) (fun v Wa Wb ho hE=>?_) (fun v hv=>?_)
 ·have hE':Ext [] W1 W:=hE
  have ha:=(hE'.block ba (by omega) (by simp)).trans kA
  refine pF (W':=W.setRow ba S) (rG _ _ _ rfl ba S rfl rfl _ _ ha (by rw[hsz];kernel_rfl) (by rw[hsz,hsa]) (by rw[Array.all_eq_true_iff_forall_mem];exact fun u hu=>hone u (Array.mem_toList_iff.2 hu))) ⟨rfl,setRow_heap W ba A S _ _ ha,?_⟩
  exact(show Ext [ba] W (W.setRow ba S) from dX)
 ·have hE':Ext [] Wa Wb:=hE
  have ho':Wa.heap[ba]? =some (.cells S 46 (0,0)):=ho
  exact(hE'.block ba (Array.getElem?_eq_some_iff.1 ho').1 (by simp)).trans ho'
 obtain rfl:v=undef:=hv
 simp only[zp]
 intro W hE hF
 have hx:W.heap[ba]? =some (.cells S 46 (0,0)):=hF _ (List.Mem.head _)
 have hE':Ext [ba] W1 W:=hE
 have he:=(hE'.block be (by omega) (by simpa using fun e=>h3 e.symm)).trans kE
 obtain⟨d2,g2,m2⟩:=cells_of_block he
 have d20:=d2 0
 simp at d20
 have HX:=Lib.hid (And.intro hx (And.intro hE' he))
 clear hE hF hx hE' he d1 g1 d2
 go_wp2
 refine⟨rfl,_,rfl,.tuple #[],by simp[results,Tryz.results41],rfl,rfl,?_,?_,?_⟩
 ·exact(Ext.nil hB1).trans ((HX.out.2.1.more (by simp)).trans (dO.more (by simp)))
 ·exact(heap_setCell_other W ⟨be,0,none⟩ ba _ h3).trans HX.out.1
 ·exact ak HX.out.2.2 _
structure AL (B:Nat) (w w':World):Prop where
 ext:sD B [] w w'
 maps: ∀(k:Nat) es cl,w.heap[k]? =some (.map es cl)->w'.heap[k]? =some (.map es cl)
theorem AL.qX {B:Nat} {w w':World} (h:Ext [] w w'):AL B w w':=⟨sD.qX h,fun k es cl hk=>(h.block k (Array.getElem?_eq_some_iff.1 hk).1 (by simp)).trans hk⟩
theorem NV (B:Nat):Ap (Ext []) (AL B):=⟨Ext.refl [],Ext.trans,fun h k=>⟨h.ext.trans k.ext,fun i es cl hi=>k.maps i es cl (h.maps i es cl hi)⟩,AL.qX⟩
instance (W0:World):Kept (AL W0.heap.size) [] W0:=⟨AL.qX,fun h=>⟨h.ext.os,h.ext.tape,h.ext.output,h.ext.size,fun k hk hm=>h.ext.block k hk hk hm⟩⟩
structure Fr (bs:Nat) (S:Array Value) (W:World):Prop where
 s:W.heap[bs]? =some (.cells S 46 (0,0))
 a: ∃A,W.heap[bs+1]? =some (.cells A 46 (0,0))/\A.size=22
 e: ∃ec,W.heap[bs+2]? =some (.cells #[ec] 48 (0,0))
theorem Fr.below {bs:Nat} {S:Array Value} {w W:World} (h:Fr bs S w) {B:Nat} (hb:Below B w W) (hB:bs+2<B):Fr bs S W:=by
 obtain⟨A,h1,h2⟩:=h.a
 obtain⟨ec,h3⟩:=h.e
 exact⟨(hb.block _ (by omega)).trans h.s,⟨A,(hb.block _ (by omega)).trans h1,h2⟩,⟨ec,(hb.block _ (by omega)).trans h3⟩⟩
theorem zK {bs:Nat} {S:Array Value} (hsz:S.size=22) (hone: ∀u∈S.toList,u.oneCell'=true) {W:World} (hF:Fr bs S W) (code:Int) (tmps:Array Value) (R:Ending->World->Prop)
 (h4:tmps.getD 4 undef= .pointer (some ⟨bs+1,0,none⟩)) (h5:tmps.getD 5 undef= .pointer (some ⟨bs+2,0,none⟩))
 (hR: ∀W',Ext [bs+1,bs+2] W W'->R (.returned (.tuple #[.agg S,iv code])) W'):
 Leaves Tryz.prog Tryz.f29 tmps R [{target:= .fn (.func 41) #[.pointer (some ⟨bs,0,none⟩),.pointer (some ⟨bs+1,0,none⟩),.pointer (some ⟨bs+2,0,none⟩)],args:= #[]}] (.panicking (refusal code)) W:=by
 obtain⟨A,hA,hAs⟩:=hF.a
 obtain⟨ec,hE⟩:=hF.e
 refine leaves_cons (f:=41) (args:= #[.pointer (some ⟨bs,0,none⟩),.pointer (some ⟨bs+1,0,none⟩),.pointer (some ⟨bs+2,0,none⟩)]) (by simp) (by simp[go_sem]) ?_
 refine(Bv bs (bs+1) (bs+2) S A ec code W hF.s hA hE hsz hAs (by omega) (by omega) (by omega) hone).mono ?_
 rintro e u' w'' ⟨rfl,rfl,U2,hA',hE'⟩
 have hr:(results Tryz.f29 tmps).run Tryz.prog w''= .ok (.tuple #[.agg S,iv code]) w'':=by
  have q1:=run_loadVar_row (P:=Tryz.prog) w'' (bs+1) 46 46 S (0,0) _ hA' Tryz.underlying46 rfl (by rw[hsz];kernel_rfl)
  obtain⟨ce,fe,le⟩:=cells_of_block hE'
  have c0:=ce 0
  simp only[Array.getD_eq_getD_getElem?] at h4 h5
  simp[results,Tryz.results29,h4,h5,asAddr,q1]
  simp[go_sem,c0]
 show Leaves _ _ _ _ [] .returning w''
 exact⟨_,hr,hR w'' U2⟩
theorem GN {bs:Nat} {S':Array Value} (hsz:S'.size=22) {W:World} (hA:W.heap[bs+1]? =some (.cells S' 46 (0,0))) (hE:W.heap[bs+2]? =some (.cells #[iv 0] 48 (0,0))) (tmps:Array Value) (R:Ending->World->Prop)
 (h4:tmps.getD 4 undef= .pointer (some ⟨bs+1,0,none⟩)) (h5:tmps.getD 5 undef= .pointer (some ⟨bs+2,0,none⟩))
 (hR:R (.returned (.tuple #[.agg S',iv 0])) W):
 Leaves Tryz.prog Tryz.f29 tmps R [{target:= .fn (.func 41) #[.pointer (some ⟨bs,0,none⟩),.pointer (some ⟨bs+1,0,none⟩),.pointer (some ⟨bs+2,0,none⟩)],args:= #[]}] .returning W:=by
 refine leaves_cons (f:=41) (args:= #[.pointer (some ⟨bs,0,none⟩),.pointer (some ⟨bs+1,0,none⟩),.pointer (some ⟨bs+2,0,none⟩)]) (by simp) (by simp[go_sem]) ?_
 refine(catch_idle ⟨bs,0,none⟩ ⟨bs+1,0,none⟩ ⟨bs+2,0,none⟩ W).mono ?_
 rintro e u' w'' ⟨rfl,rfl,rfl⟩
 have hr:(results Tryz.f29 tmps).run Tryz.prog w''= .ok (.tuple #[.agg S',iv 0]) w'':=by
  have q1:=run_loadVar_row (P:=Tryz.prog) w'' (bs+1) 46 46 S' (0,0) _ hA Tryz.underlying46 rfl (by rw[hsz];kernel_rfl)
  obtain⟨ce,fe,le⟩:=cells_of_block hE
  have c0:=ce 0
  simp only[Array.getD_eq_getD_getElem?] at h4 h5
  simp[results,Tryz.results29,h4,h5,asAddr,q1]
  simp[go_sem,c0]
 show Leaves _ _ _ _ [] .returning w''
 exact⟨_,hr,hR⟩
theorem KW (c:gB) (args:Array Value) (w:World):(callFunc (dQ c) args).run Tryz.prog w= .ok (.enter (dQ c) args) w:=by
 cases c
 ·exact enters_of Tryz.func61 (by kernel_rfl) rfl args w
 ·exact enters_of Tryz.func62 (by kernel_rfl) rfl args w
 ·exact enters_of Tryz.func63 (by kernel_rfl) rfl args w
 ·exact enters_of Tryz.func64 (by kernel_rfl) rfl args w
 ·exact enters_of Tryz.func65 (by kernel_rfl) rfl args w
 ·exact enters_of Tryz.func66 (by kernel_rfl) rfl args w
 ·exact enters_of Tryz.func67 (by kernel_rfl) rfl args w
 ·exact enters_of Tryz.func68 (by kernel_rfl) rfl args w
 ·exact enters_of Tryz.func69 (by kernel_rfl) rfl args w
 ·exact enters_of Tryz.func70 (by kernel_rfl) rfl args w
 ·exact enters_of Tryz.func71 (by kernel_rfl) rfl args w
 ·exact enters_of Tryz.func72 (by kernel_rfl) rfl args w
 ·exact enters_of Tryz.func73 (by kernel_rfl) rfl args w
 ·exact enters_of Tryz.func74 (by kernel_rfl) rfl args w
 ·exact enters_of Tryz.func75 (by kernel_rfl) rfl args w
 ·exact enters_of Tryz.func76 (by kernel_rfl) rfl args w
 ·exact enters_of Tryz.func77 (by kernel_rfl) rfl args w
 ·exact enters_of Tryz.func78 (by kernel_rfl) rfl args w
 ·exact enters_of Tryz.func79 (by kernel_rfl) rfl args w
 ·exact enters_of Tryz.func80 (by kernel_rfl) rfl args w
 ·exact enters_of Tryz.func81 (by kernel_rfl) rfl args w
theorem WR (c:gB) (n:List Int) (hn:n.length=c.many) (hb: ∀x∈n,0<=x/\x<=9999) (N:Nat) (w:World) (wb:Nat) (s:gV) (V:SV) (es:List KE) (ns:Value) (hO:gU N w wb s V es) (hns:n≠[]->mF N w ns n) (hG:Good s):
 Calls Tryz.prog (dQ c) #[.pointer (some ⟨wb,0,none⟩),ns] w (lM N wb (act s c n) w):=by
 cases c
 ·have:n=[]:=List.eq_nil_of_length_eq_zero hn
  subst this
  exact Vq N w wb s V es ns hO hG
 ·obtain⟨a,b,rfl⟩: ∃a b,n=[a,b]:=by
   simp only[gB.many] at hn
   match n,hn with
   |[a,b],_=>exact⟨a,b,rfl⟩
  have h:=hns (by simp)
  exact Sm N w wb s V es ns a b hO h
 ·obtain⟨a,b,d,e,f,rfl⟩: ∃a b d e f,n=[a,b,d,e,f]:=by
   simp only[gB.many] at hn
   match n,hn with
   |[a,b,d,e,f],_=>exact⟨a,b,d,e,f,rfl⟩
  have h:=hns (by simp)
  exact sH N w wb s V es ns a b d e f hO h hG
 ·obtain⟨a,b,d,rfl⟩: ∃a b d,n=[a,b,d]:=by
   simp only[gB.many] at hn
   match n,hn with
   |[a,b,d],_=>exact⟨a,b,d,rfl⟩
  have h:=hns (by simp)
  obtain⟨a',rfl⟩: ∃k:Nat,a=k:=⟨a.toNat,by have:=hb a (by simp);omega⟩
  exact QN N w wb s V es ns a' b d hO h
 ·obtain⟨a,rfl⟩: ∃a,n=[a]:=by
   simp only[gB.many] at hn
   match n,hn with
   |[a],_=>exact⟨a,rfl⟩
  have h:=hns (by simp)
  obtain⟨a',rfl⟩: ∃k:Nat,a=k:=⟨a.toNat,by have:=hb a (by simp);omega⟩
  exact FU N w wb s V es ns a' hO h hG
 ·obtain⟨a,rfl⟩: ∃a,n=[a]:=by
   simp only[gB.many] at hn
   match n,hn with
   |[a],_=>exact⟨a,rfl⟩
  have h:=hns (by simp)
  exact Ri N w wb s V es ns a hO h
 ·obtain⟨a,b,rfl⟩: ∃a b,n=[a,b]:=by
   simp only[gB.many] at hn
   match n,hn with
   |[a,b],_=>exact⟨a,b,rfl⟩
  have h:=hns (by simp)
  exact WM N w wb s V es ns a b hO h
 ·obtain⟨a,b,d,rfl⟩: ∃a b d,n=[a,b,d]:=by
   simp only[gB.many] at hn
   match n,hn with
   |[a,b,d],_=>exact⟨a,b,d,rfl⟩
  have h:=hns (by simp)
  exact note_any N w wb s V es ns a b d hO h hG
 ·obtain⟨a,rfl⟩: ∃a,n=[a]:=by
   simp only[gB.many] at hn
   match n,hn with
   |[a],_=>exact⟨a,rfl⟩
  have h:=hns (by simp)
  obtain⟨a',rfl⟩: ∃k:Nat,a=k:=⟨a.toNat,by have:=hb a (by simp);omega⟩
  exact QO N w wb s V es ns a' hO h hG
 ·obtain⟨a,b,rfl⟩: ∃a b,n=[a,b]:=by
   simp only[gB.many] at hn
   match n,hn with
   |[a,b],_=>exact⟨a,b,rfl⟩
  have h:=hns (by simp)
  exact NP N w wb s V es ns a b hO h ((hb a (by simp)))
 ·obtain⟨a,b,d,rfl⟩: ∃a b d,n=[a,b,d]:=by
   simp only[gB.many] at hn
   match n,hn with
   |[a,b,d],_=>exact⟨a,b,d,rfl⟩
  have h:=hns (by simp)
  obtain⟨a',rfl⟩: ∃k:Nat,a=k:=⟨a.toNat,by have:=hb a (by simp);omega⟩
  exact Dw N w wb s V es ns a' b d hO h hG ((hb b (by simp)))
 ·obtain⟨a,rfl⟩: ∃a,n=[a]:=by
   simp only[gB.many] at hn
   match n,hn with
   |[a],_=>exact⟨a,rfl⟩
  have h:=hns (by simp)
  exact QP N w wb s V es ns a hO h hG ((hb a (by simp)).1)
 ·obtain⟨a,rfl⟩: ∃a,n=[a]:=by
   simp only[gB.many] at hn
   match n,hn with
   |[a],_=>exact⟨a,rfl⟩
  have h:=hns (by simp)
  exact Jz N w wb s V es ns a hO h hG
 ·obtain⟨a,b,d,rfl⟩: ∃a b d,n=[a,b,d]:=by
   simp only[gB.many] at hn
   match n,hn with
   |[a,b,d],_=>exact⟨a,b,d,rfl⟩
  have h:=hns (by simp)
  exact SC N w wb s V es ns a b d hO h hG
 ·obtain⟨a,rfl⟩: ∃a,n=[a]:=by
   simp only[gB.many] at hn
   match n,hn with
   |[a],_=>exact⟨a,rfl⟩
  have h:=hns (by simp)
  obtain⟨a',rfl⟩: ∃k:Nat,a=k:=⟨a.toNat,by have:=hb a (by simp);omega⟩
  exact JA N w wb s V es ns a' hO h hG
 ·obtain⟨a,b,rfl⟩: ∃a b,n=[a,b]:=by
   simp only[gB.many] at hn
   match n,hn with
   |[a,b],_=>exact⟨a,b,rfl⟩
  have h:=hns (by simp)
  exact TG N w wb s V es ns a b hO h hG ((hb a (by simp)))
 ·obtain⟨a,b,d,rfl⟩: ∃a b d,n=[a,b,d]:=by
   simp only[gB.many] at hn
   match n,hn with
   |[a,b,d],_=>exact⟨a,b,d,rfl⟩
  have h:=hns (by simp)
  obtain⟨a',rfl⟩: ∃k:Nat,a=k:=⟨a.toNat,by have:=hb a (by simp);omega⟩
  exact mZ N w wb s V es ns a' b d hO h ((hb b (by simp)))
 ·obtain⟨a,b,rfl⟩: ∃a b,n=[a,b]:=by
   simp only[gB.many] at hn
   match n,hn with
   |[a,b],_=>exact⟨a,b,rfl⟩
  have h:=hns (by simp)
  obtain⟨a',rfl⟩: ∃k:Nat,a=k:=⟨a.toNat,by have:=hb a (by simp);omega⟩
  exact Um N w wb s V es ns a' b hO h hG
 ·obtain⟨a,b,d,rfl⟩: ∃a b d,n=[a,b,d]:=by
   simp only[gB.many] at hn
   match n,hn with
   |[a,b,d],_=>exact⟨a,b,d,rfl⟩
  have h:=hns (by simp)
  obtain⟨a',rfl⟩: ∃k:Nat,a=k:=⟨a.toNat,by have:=hb a (by simp);omega⟩
  obtain⟨b',rfl⟩: ∃k:Nat,b=k:=⟨b.toNat,by have:=hb b (by simp);omega⟩
  exact TV N w wb s V es ns a' b' d hO h hG
 ·obtain⟨a,b,d,rfl⟩: ∃a b d,n=[a,b,d]:=by
   simp only[gB.many] at hn
   match n,hn with
   |[a,b,d],_=>exact⟨a,b,d,rfl⟩
  have h:=hns (by simp)
  exact try_any N w wb s V es ns a b d hO h hG ⟨(hb a (by simp)),(hb b (by simp))⟩
 ·obtain⟨a,rfl⟩: ∃a,n=[a]:=by
   simp only[gB.many] at hn
   match n,hn with
   |[a],_=>exact⟨a,rfl⟩
  have h:=hns (by simp)
  obtain⟨a',rfl⟩: ∃k:Nat,a=k:=⟨a.toNat,by have:=hb a (by simp);omega⟩
  exact NG N w wb s V es ns a' hO h hG
theorem ND: ∀l:Bytes,(aS l).length<=l.length+1:=by
 intro l
 induction l with
 |nil=>simp[aS]
 |cons c l ih=>
  rw[aS]
  split
  ·simp;omega
  ·have:=iP l
   cases h:aS l with
   |nil=>exact absurd h this
   |cons x ps=>rw[h] at ih;simp at ih⊢;omega
theorem az {P:Program} {w w':World} {ops:Array Oper} {rest:List Oper} {o:Oper} {a:Act} {Q:Exit->Act->World->Prop} (hg:o.guard=none) (v:Value) (h:(execOp a.eval o).run P w= .ok (.value v) w') (hK:wpList P ops Q rest (a.put o.dst v) w'):wpList P ops Q (o::rest) a w:=by
 refine wpList_plain hg fun K hK'=>?_
 exact tu (R:=fun v1 w1=>v1=v/\w1=w') (iK v h ⟨rfl,rfl⟩) fun v1 w1 ⟨h1,h2⟩=>by rw[h1,h2];exact hK' _ _ hK
theorem jA {P:Program} {ops:Array Oper} {l:List Oper} {Q:Exit->Act->World->Prop} {a:Act} {W:World} (h: ∀W',W'=W->wpList P ops Q l a W'):wpList P ops Q l a W:=h W rfl
theorem FN: ∀(l:Bytes) (p:Bytes),p∈aS l->p.length<=l.length:=by
 intro l
 induction l with
 |nil=>intro p h;simp[aS] at h;subst h;simp
 |cons c l ih=>
  intro p h
  rw[aS] at h
  split at h
  ·rcases List.mem_cons.1 h with rfl|h
   ·simp
   ·have:=ih p h;simp;omega
  ·cases hw:aS l with
   |nil=>exact absurd hw (iP l)
   |cons x ps=>
    rw[hw] at h
    simp only[List.headD_cons,List.tail_cons] at h
    rcases List.mem_cons.1 h with rfl|h
    ·have:=ih x (by rw[hw];simp);simp;omega
    ·have:=ih p (by rw[hw];simp[h]);simp;omega
theorem zA: ∀(ps:List Bytes) (p:Bytes) (ns:List Int) (n:Int),iU ps=some ns->jb p=some n->iU (ps++[p])=some (ns++[n]):=by
 intro ps
 induction ps with
 |nil=>intro p ns n h1 h2;obtain rfl:=Option.some.inj h1;simp[iU,h2]
 |cons q ps ih=>
  intro p ns n h1 h2
  unfold iU at h1
  cases hq:jb q with
  |none=>rw[hq] at h1;cases h1
  |some x=>
   cases hs:iU ps with
   |none=>rw[hq,hs] at h1;cases h1
   |some y=>
    rw[hq,hs] at h1
    obtain rfl:=Option.some.inj h1
    rw[List.cons_append,iU,hq,ih p y n hs h2]
    rfl
theorem Cm: ∀(ps:List Bytes) (i:Nat) (p:Bytes),ps[i]? =some p->jb p=none->iU ps=none:=by
 intro ps
 induction ps with
 |nil=>intro i p h;cases h
 |cons q ps ih=>
  intro i p h hn
  cases i with
  |zero=>
   simp only[List.getElem?_cons_zero,Option.some.injEq] at h
   subst h
   rw[iU,hn];rfl
  |succ i=>
   rw[iU,ih i p (by simpa using h) hn]
   cases jb q <;>rfl
def PDo (Ms:List Nat) (s:gV) (l:Bytes) (w:World) (e:Ending) (w':World):Prop:=
 Below w.heap.size w w'/\ ∃V es,e= .returned (.tuple #[.agg (bV (oK aJ s l).1 V),iv (oK aJ s l).2])/\kP w' (oK aJ s l).1 V es/\ ∀W',Ext Ms w' W'->kP W' (oK aJ s l).1 V es
theorem fO {w:World} {s:gV} {V:SV} {es:List KE} (h:kP w s V es): ∀u∈(bV s V).toList,u.oneCell'=true:=by
 obtain⟨o1,c1,h1⟩:=aB.open h.pM
 obtain⟨o2,c2,h2⟩:=aB.open h.MV
 obtain⟨o3,c3,h3⟩:=aB.open h.bg
 obtain⟨o4,c4,h4⟩:=aB.open h.Qw
 obtain⟨o5,c5,h5⟩:=aB.open h.Rh
 obtain⟨o6,c6,h6⟩:=aB.open h.bG.heaps
 obtain⟨o7,c7,h7⟩:=aB.open h.bG.aC.1
 obtain⟨o8,c8,h8⟩:=aB.open h.bG.au
 simp[bV,h1,h2,h3,h4,h5,h6,h7,h8,Value.oneCell']
theorem Zf (s:gV) (V:SV) (es:List KE) (l:Bytes) (w:World) (hS:kP w s V es) (hG:Good s) (hE:Env w) (hl:l.length<=1000) (Ms:List Nat) (hMs: ∀m∈Ms,m<w.heap.size) (hSM: ∀W',Ext Ms w W'->kP W' s V es):Calls Tryz.prog 29 #[.agg (bV s V),.string (dW l)] w (PDo Ms s l w):=by
 obtain⟨vt,vn,vw,vu,vr,vh,vk,vs⟩:=V
 have HS:Hid (∀W,Below w.heap.size w W->kP W s ⟨vt,vn,vw,vu,vr,vh,vk,vs⟩ es):=Lib.hid (fun W hb=>hS.below hb (Nat.le_refl _))
 have HE:Hid (∀W,Below w.heap.size w W->Env W):=Lib.hid (fun W hb=>hE.below hb (Nat.le_refl _))
 have HG:=Lib.hid hG
 have ajK:=Lib.hid (fO hS)
 have UM:Hid (∀(code:Int),oK aJ s l=(s,code)-> ∀W,Below w.heap.size w W->Fr w.heap.size (bV s ⟨vt,vn,vw,vu,vr,vh,vk,vs⟩) W-> ∀tmps:Array Value,tmps.getD 4 undef= .pointer (some ⟨w.heap.size+1,0,none⟩)->tmps.getD 5 undef= .pointer (some ⟨w.heap.size+2,0,none⟩)->
  Leaves Tryz.prog Tryz.f29 tmps (PDo Ms s l w) [{target:= .fn (.func 41) #[.pointer (some ⟨w.heap.size,0,none⟩),.pointer (some ⟨w.heap.size+1,0,none⟩),.pointer (some ⟨w.heap.size+2,0,none⟩)],args:= #[]}] (.panicking (refusal code)) W):=Lib.hid (by
  intro code hd W hb hF tmps h4 h5
  refine zK rfl (fO hS) hF code tmps _ h4 h5 (fun W' U2=>?_)
  have hb':Below w.heap.size w W':=hb.trans ⟨U2.os,U2.tape,U2.output,U2.size,fun k hk=>U2.block k (by have:=hb.size;omega) (by simp;omega)⟩
  refine⟨hb',⟨vt,vn,vw,vu,vr,vh,vk,vs⟩,es,?_,?_,fun W'' hE'=>?_⟩
  ·rw[hd]
  ·rw[hd];exact hS.below hb' (Nat.le_refl _)
  ·rw[hd];exact hSM W'' ((Ext.of_below hb').trans hE'))
 have HMS:=Lib.hid hMs
 clear hS hE hG hMs hSM
 go_enter_defers Tryz.func29,Tryz.ntmps29
 go_upto_region 2 with(fail)
 refine dD fun W0 hW0=>?_
 have hF0:Fr w.heap.size (bV s ⟨vt,vn,vw,vu,vr,vh,vk,vs⟩) W0:=by
  rw[hW0]
  refine⟨?_,?_,?_⟩
  ·exact(heap_alloc_old _ _ (by simp;omega)).trans ((heap_alloc_old _ _ (by simp)).trans (ag _ _))
  ·exact⟨_,(heap_alloc_old _ _ (by simp)).trans (dL _ _ _),rfl⟩
  ·exact⟨_,fJ _ _ _ _⟩
 have HB0:=Lib.hid (show Below w.heap.size w W0 from by rw[hW0];exact af (af (af (Below.refl _ _) _) _) _)
 have hs0:w.heap.size+3<=W0.heap.size:=by rw[hW0];simp
 have Qo:=Lib.hid hF0
 clear hW0 hF0
 go_wp2_with fail
 refine(NR l W0 (HE.out _ HB0.out) hl).mono ?_
 rintro e W1 ⟨np,hnp,rfl,hW1⟩
 have HB1:=Lib.hid (show Below w.heap.size w W1 from by rw[hW1];exact af HB0.out _)
 have HF1:=Lib.hid (show Fr w.heap.size (bV s ⟨vt,vn,vw,vu,vr,vh,vk,vs⟩) W1 from by rw[hW1];exact Qo.out.below (af (Below.refl _ _) _) (by omega))
 have hp1:W1.heap[W0.heap.size]? =some (.cells (bT (aS l)).toArray 9 (0,0)):=by rw[hW1];exact ag _ _
 have hsz1:W1.heap.size=W0.heap.size+1:=by rw[hW1];simp
 have hsz:w.heap.size+4<=W1.heap.size:=by omega
 obtain⟨pb,hpb⟩: ∃pb,pb=W0.heap.size:=⟨_,rfl⟩
 rw[<-hpb] at hp1⊢
 have hpl:pb<W1.heap.size:=by omega
 have hpw:w.heap.size+3<=pb:=by omega
 have hn1:1<=np:=by rw[hnp];have:=iP l;cases h:aS l <;>simp_all
 have hn0:0<np:=by omega
 have hnI:(0:Int)<(np:Int):=by omega
 obtain⟨x0,ps,hws⟩: ∃x0 ps,aS l=x0::ps:=by
  cases h:aS l with
  |nil=>exact absurd h (iP l)
  |cons x ps=>exact⟨x,ps,rfl⟩
 obtain⟨c1,f1,l1⟩:=cells_of_block hp1
 have g0:W1.cell? ⟨pb,0,none⟩=some (.string (dW x0)):=by rw[c1,hws];rfl
 have U6:=Lib.hid (And.intro hp1 (And.intro hnp hws))
 clear hW1 hp1 hnp hws hpb hsz1 c1 f1 hs0
 go_wp2_with fail
 refine iO (NV W1.heap.size) ((Ext.refl [] _).drew) (Ps:=(fun i _ v W=>match i with|8=> ∃b:Nat,v= .pointer (some ⟨b,0,none⟩)/\W1.heap.size<=b/\ ∃x y,W.heap[b]? =some (.cells #[x,y] 109 (0,0))|_=>True)) 10 (some 9)
  [(0,⟨fun _ v=> ∃mb,v= .map (some mb),fun _ v W=> ∃mb,v= .map (some mb)/\TabAt NL ZV (fun _=>True) W mb JH⟩),(8,⟨fun _ v=> ∃b:Nat,v= .pointer (some ⟨b,0,none⟩),fun _ _ _=>True⟩),
    (9,⟨fun _ v=>v=undef,fun xs _ W=> ∃(b:Nat) (x y:Value),xs=[.pointer (some ⟨b,0,none⟩),.agg #[x,y]]/\W1.heap.size<=b/\W.heap[b]? =some (.cells #[x,y] 109 (0,0))⟩)] (by as_aux_lemma=>kernel_rfl) (by as_aux_lemma=>kernel_rfl) ?_
 simp only[zt]
 refine mX _ (by rfl) (by rfl) (by exact⟨.map (some 0),0,rfl⟩) (fun Wa hE hF hG=>?_) (fun v Wa Wb ho hE=>?_) (fun _ _ _ _ _=>trivial) (fun v hv=>?_)
 ·have hE':AL W1.heap.size W1 Wa:=hE
  refine bU 43 #[] (by go_simp;try rfl) ?_
  refine(NF Wa).mono ?_
  rintro e w' ⟨mb,rfl,h1,h2,h3⟩
  exact⟨_,rfl,⟨mb,rfl⟩,⟨mb,rfl,h2⟩,Ext.of_below h3,trivial⟩
 ·obtain⟨mb,hv,ht⟩:=ho
  have hE':AL W1.heap.size Wa Wb:=hE
  obtain⟨h0,es',cl,hm,hx⟩:=ht
  exact⟨mb,hv,h0,es',cl,hE'.maps _ _ _ hm,hx⟩
 obtain⟨mb,rfl⟩:=hv
 simp only[zp]
 repeat ((first|refine zd ?_|refine zk ?_);simp only[zp])
 have hm:Tryz.prog.underlying 111=some (.map 9 109):=by kernel_rfl
 have hz:=fun w=>Tryz.zeroValue109 w
 obtain⟨n1,fv,bq,hT1,hone,hcase⟩: ∃(n1:Int) (fv:Value) (bq:Bool),Value.tuple #[((TB.look (dW x0) JH).map ZV).getD (.agg #[iv 0,.nilFunc]),.bool (TB.look (dW x0) JH).isSome]= .tuple #[.agg #[iv n1,fv],.bool bq]/\fv.oneCell'=true/\
  ((nN x0=none/\bq=false/\n1=0)∨ ∃c,nN x0=some c/\bq=true/\n1=c.many/\fv= .func (.func (dQ c)) #[] #[]):=by
  rw[Si]
  have hx:(dW x0).data.toList=x0:=by simp[dW]
  rw[hx]
  cases hc:nN x0 with
  |none=>exact⟨0,.nilFunc,false,rfl,rfl,.inl ⟨rfl,rfl,rfl⟩⟩
  |some c=>exact⟨c.many,.func (.func (dQ c)) #[] #[],true,rfl,rfl,.inr ⟨c,rfl,rfl,rfl,rfl⟩⟩
 have hlk: ∀(W:World),TabAt NL ZV (fun _=>True) W mb JH->(Instr.lookup 111 (.map (some mb)) (.string (dW x0)) true).run Tryz.prog W= .ok (.tuple #[.agg #[iv n1,fv],.bool bq]) W:=fun W hT=>by
  have:=pq keyS hm hz hT (dW x0) trivial true W rfl
  rw[if_pos rfl] at this
  rw[this]
  exact congrArg (fun q=>Result.ok q W) hT1
 have Fz:=Lib.hid hlk
 have HC:=Lib.hid hcase
 clear hlk hm hT1 hcase hz
 refine eG (by rfl) (.tuple #[.agg #[iv n1,fv],.bool bq]) (by rfl) (fun W hE hF=>?_) ?_
 ·obtain⟨mb',hmb,hT⟩:=hF _ (List.Mem.head _) (by kernel_rfl)
  cases hmb
  have:=Fz.out W hT
  go_simp
 simp only[zp]
 repeat ((first|refine zd ?_|refine zk ?_);simp only[zp])
 refine mX _ (by rfl) (by rfl) (by exact⟨.pointer (some ⟨0,0,none⟩),0,rfl⟩) (fun Wa hE hF hG=>?_) (fun _ _ _ _ _=>trivial) (fun v Wa Wb ho hE=>?_) (fun v hv=>?_)
 ·have hE':AL W1.heap.size W1 Wa:=hE
  exact iK (W':=Wa.alloc (.cells #[iv 0,.nilFunc] 109)) (.pointer (some ⟨Wa.heap.size,0,none⟩)) (by go_simp;try rfl) ⟨⟨_,rfl⟩,trivial,Ext.of_below ((Below.refl _ _).alloc (Nat.le_refl _) _),_,rfl,hE'.ext.size,_,_,heap_alloc_new _ _⟩
 ·obtain⟨b,hb,hge,x,y,hc⟩:=ho
  exact⟨b,hb,hge,x,y,(hE.block b (Array.getElem?_eq_some_iff.1 hc).1 (by simp)).trans hc⟩
 obtain⟨b8,rfl⟩:=hv
 simp only[zp]
 refine mX _ (by rfl) (by rfl) (by exact⟨_,rfl⟩) (fun Wa hE hF hG=>?_) (fun v Wa Wb ho hE=>?_) (fun _ _ _ _ _=>trivial) (fun v hv=>?_)
 ·obtain⟨b,hb,hge,x,y,hc⟩:=hG rfl _ (List.Mem.head _) (by kernel_rfl)
  cases hb
  refine pF (W':=Wa.setRow b8 #[iv n1,fv]) ?_ ⟨rfl,⟨b8,iv n1,fv,rfl,hge,setRow_heap Wa b8 _ _ _ _ hc⟩,?_,trivial⟩
  ·exact rG _ _ _ rfl b8 #[iv n1,fv] rfl rfl _ _ hc (by kernel_rfl) rfl (by rw[Array.all_eq_true_iff_forall_mem];intro u hu;simp only[List.mem_toArray,List.mem_cons,List.not_mem_nil,or_false] at hu;rcases hu with rfl|rfl;(exact rfl);(exact hone))
  ·exact(show AL W1.heap.size Wa (Wa.setRow b8 #[iv n1,fv]) from⟨⟨rfl,rfl,rfl,by simp,fun k _ hkB _=>setRow_other _ _ _ _ (by omega)⟩,fun k es' cl hk=>by
    have hne:k≠b8:=fun e=>by subst e;rw[hc] at hk;cases hk
    exact(setRow_other _ _ _ _ hne).trans hk⟩)
 ·obtain⟨b,x,y,h1,h2,h3⟩:=ho
  have hE':Ext [] Wa Wb:=hE
  exact⟨b,x,y,h1,h2,(hE'.block b (Array.getElem?_eq_some_iff.1 h3).1 (by simp)).trans h3⟩
 obtain rfl:v=undef:=hv
 simp only[zp]
 intro W2 hE2 hF2
 obtain⟨Zp,x8,y8,hx8,aiH,hb8⟩:=hF2 _ (List.Mem.head _)
 have O5:AL W1.heap.size W1 W2:=hE2
 obtain⟨rfl,rfl,rfl⟩:Zp=b8/\x8=iv n1/\y8=fv:=by
  have h:=(show[Value.pointer (some ⟨b8,0,none⟩),.agg #[iv n1,fv]]=[.pointer (some ⟨Zp,0,none⟩),.agg #[x8,y8]] from hx8)
  simp at h
  exact⟨h.1.symm,h.2.1.symm,h.2.2.symm⟩
 have nU:Below W1.heap.size W1 W2:=⟨O5.ext.os,O5.ext.tape,O5.ext.output,O5.ext.size,fun k hk=>O5.ext.block k hk hk (by simp)⟩
 have HB2:=Lib.hid (aH HB1.out nU)
 have HF2:=Lib.hid (HF1.out.below nU (by omega))
 have hp2:=(nU.block pb hpl).trans U6.out.1
 have hs2:=nU.size
 have HP2:=Lib.hid (And.intro hp2 hb8)
 obtain⟨c2,f2,l2⟩:=cells_of_block hb8
 have hone':=Lib.hid hone
 clear hE2 hF2 hx8 O5 nU hp2 hb8 hone g0
 rcases HC.out with⟨hc0,hbq,Tu⟩|⟨c,hc0,hbq,Tu,hfv⟩
 ·subst hbq
  have hd:oK aJ s l=(s,4):=wC (by unfold parse;rw[U6.out.2.2];simp[hc0])
  have HD:=Lib.hid hd
  clear hd
  go_wp2_with fail
  refine(cu 4 [true] W2 (by simp) _ (by simp[bI]) _ _ rfl).mono ?_
  rintro e W3 ⟨hb,⟨hc,rfl⟩|⟨hc,rfl⟩⟩
  ·exact absurd hc (by decide)
  ·exact UM.out 4 HD.out W3 (aH HB2.out hb) (HF2.out.below hb (by omega)) _ rfl rfl
 ·subst hbq
  subst Tu
  subst hfv
  have aa7:np=ps.length+1:=by rw[U6.out.2.1,U6.out.2.2];rfl
  have ail:(np:Int)<=1001:=by have:=ND l;rw[<-U6.out.2.1] at this;omega
  have HNP:=Lib.hid aa7
  clear aa7
  go_wp2_with fail
  refine(cu 4 [(np:Int)-1 !=c.many] W2 (by simp) _ (by simp[bI]) _ _ rfl).mono ?_
  rintro e W3 ⟨hb,⟨hc,rfl⟩|⟨hc,rfl⟩⟩
  rotate_left
  ·have hd:oK aJ s l=(s,4):=wC (by
    unfold parse
    rw[U6.out.2.2,List.headD_cons,hc0,Option.bind_some,List.tail_cons,if_neg]
    intro e
    have:=HNP.out
    simp at hc
    omega)
   exact UM.out 4 hd W3 (aH HB2.out hb) (HF2.out.below hb (by omega)) _ rfl rfl
  have hcm:ps.length=c.many:=by
   have:=HNP.out
   simp at hc
   omega
  have HB3:=Lib.hid (aH HB2.out hb)
  have HF3:=Lib.hid (HF2.out.below hb (by omega))
  have hp3:=(hb.block pb (by omega)).trans HP2.out.1
  have abL:=(hb.block Zp l2).trans HP2.out.2
  have aek:pb<W3.heap.size:=(Array.getElem?_eq_some_iff.1 hp3).1
  obtain⟨off,hA⟩: ∃off,(if np=1 then(some ⟨pb,0,none⟩:Option Addr) else some ⟨pb,1,none⟩)=some ⟨pb,off,none⟩:=by split <;>exact⟨_,rfl⟩
  have hoff: ∀i,i<ps.length->off=1:=fun i hi=>by
   have:=HNP.out
   rw[if_neg (by omega)] at hA
   injection hA with h;injection h with _ h2 _;exact h2.symm
  have HO:=Lib.hid (And.intro hoff hcm)
  have ZE:=Lib.hid (And.intro hp3 (And.intro abL hc0))
  have hn1':(1:Int)<=(np:Int):=by omega
  clear hb hc hcm hp3 abL hoff c2 f2 hc0
  go_wp2_with fail
  have HN0:Hid (iU []=some []):=Lib.hid rfl
  go_loopw [9,11,12,13,41] (fun v9 _ _ _ u wr=> ∃i:Nat,i<=ps.length/\u= .int .i64 i/\Below W3.heap.size W3 wr/\ ∃(ns:List Int) (o:Option Addr) (c9:Nat),iU (ps.take i)=some ns/\v9= .slice o i c9/\wr.ownsRow W3.heap.size 3 1 (.slice o i c9) i (intCells ns)) (fun _ _ _ _ u _=>ps.length-(intOf u).toNat)
  case atStart=>exact⟨0,Nat.zero_le _,rfl,Below.refl _ _,[],none,0,rfl,rfl,⟨rfl,.inl ⟨rfl,rfl⟩⟩⟩
  case round=>
   obtain⟨i,hi,rfl,hB,ns,o9,c9,hns,rfl,how⟩:=hrel
   have aa6:=HNP.out
   by_cases hlt:i<ps.length
   ·have hlt2:(i:Int)<((np-1:Nat):Int):=by omega
    have hlt3:i<np-1:=by omega
    have hpr:=(hB.block pb aek).trans ZE.out.1
    obtain⟨cp,fp,lp⟩:=cells_of_block hpr
    have gi:wr.cell? ⟨pb,off+i,none⟩=some (.string (dW ps[i])):=by
     rw[HO.out.1 i hlt,cp,U6.out.2.2]
     simp[bT,hlt,Nat.add_comm]
    have Yy:ps[i].length<=1000:=by
     have:=FN l ps[i] (by rw[U6.out.2.2];simp)
     omega
    have ZF:=Lib.hid (J5 ps[i] wr (HE.out wr (aH HB3.out hB)) Yy)
    have HX:=Lib.hid (And.intro hB (And.intro hns how))
    clear hB hns how cp hpr aa6
    go_wp2_with fail
    refine ZF.out.mono ?_
    rintro e W4 ⟨hb4,v,rfl,hv⟩
    cases hnb:jb ps[i] with
    |none=>
     rw[hnb] at hv
     have HB4:=Lib.hid (aH HX.out.1 hb4)
     have hd:oK aJ s l=(s,4):=wC (by
      unfold parse
      rw[U6.out.2.2,List.headD_cons,ZE.out.2.2,Option.bind_some,List.tail_cons,Cm ps i ps[i] (List.getElem?_eq_getElem hlt) hnb]
      simp)
     have HD:=Lib.hid hd
     clear hd hb4 hv hnb ZF gi fp lp
     simp only[Option.isSome_none]
     go_wp2_with fail
     refine(cu 4 [true] W4 (by simp) _ (by simp[bI]) _ _ rfl).mono ?_
     rintro e W5 ⟨hb,⟨hc,rfl⟩|⟨hc,rfl⟩⟩
     ·exact absurd hc (by decide)
     ·exact UM.out 4 HD.out W5 (aH HB3.out (aH HB4.out hb)) (HF3.out.below (aH HB4.out hb) (by omega)) _ rfl rfl
    |some n=>
     rw[hnb] at hv
     obtain rfl:v=n:=hv n rfl
     have HB4:=Lib.hid (aH HX.out.1 hb4)
     have aa2:=ah (Ms:=[]) HX.out.2.2 (Ext.of_below hb4) (by simp)
     have HN4:=Lib.hid hnb
     have HW4:=Lib.hid (And.intro aa2 hb4)
     clear hb4 hv hnb ZF gi fp lp aa2
     simp only[Option.isSome_some]
     go_wp2_with fail
     refine(cu 4 [false] W4 (by simp) _ (by simp[bI]) _ _ rfl).mono ?_
     rintro e W5 ⟨hb,⟨hc,rfl⟩|⟨hc,rfl⟩⟩
     rotate_left
     ·exact absurd hc (by decide)
     have SQ:=ah (Ms:=[]) HW4.out.1 (Ext.of_below hb) (by simp)
     have lD:=Lib.hid (aH HB4.out hb)
     have HW5:=Lib.hid SQ
     have hs5:=lD.out.size
     have hi5:i<=1001:=by omega
     clear hb hc SQ
     go_wp2_with (at_builtin;go_loud (refine bQ rfl _ _ qo rfl W3.heap.size (.slice o9 i c9) i (intCells ns) rfl (ah (Ms:=[]) HW5.out (Ext.of_below (af (Below.refl _ _) _)) (by simp)) (.slice (some ⟨W5.heap.size,0,none⟩) 1 1) 1 [iv v] rfl (aB.of_block 1 1 (ag _ _) rfl (by decide)) (one_one v) (by omega) (by omega) (by simp;omega) ?_))
     intro v' W6 hown hgr hN
     obtain⟨o6,c6,rfl⟩:=aA hown
     have hpu:=rX lD.out HW5.out (Ext.of_below (af (Below.refl _ _) _)) hown hgr (Nat.le_refl _) lD.out.size
     have HP:=Lib.hid (And.intro hpu hown)
     clear hpu hown hgr hN
     go_wp2_with fail
     go_roundw
     case rel=>
      refine⟨i+1,by omega,by go_num,HP.out.1.1,ns++[v],o6,c6,?_,rfl,?_⟩
      ·rw[List.take_add_one,List.getElem?_eq_getElem hlt]
       exact zA _ _ _ _ HX.out.2.1 HN4.out
      ·rw[Bg]
       exact HP.out.2
     case measure=>simp[intOf];omega
   ·obtain rfl:i=ps.length:=by omega
    rw[List.take_length] at hns
    have hp:parse l=some (c,ns):=by
     unfold parse
     rw[U6.out.2.2,List.headD_cons,ZE.out.2.2,Option.bind_some,List.tail_cons,if_pos HO.out.2,hns]
     rfl
    have abI:=(hB.block Zp (by have:=(Array.getElem?_eq_some_iff.1 ZE.out.2.1).1;omega)).trans ZE.out.2.1
    obtain⟨c8,f8,l8⟩:=cells_of_block abI
    obtain⟨hwl,hnl,hnb,aen⟩:=nC hp
    have HX:=Lib.hid (And.intro hB (And.intro how (And.intro hp (And.intro hnl hnb))))
    have aim: ¬((ps.length:Nat):Int)<((np-1:Nat):Int):=by omega
    have agy: ¬ps.length<np-1:=by omega
    clear hB how hp hns hwl hnl hnb aen abI aa6
    go_upto_region 13 with(fail)
    have hFr:=HF3.out.below HX.out.1 (by omega)
    refine wp_region_lit ?_
    refine wpList_load_row rfl _ _ rfl w.heap.size rfl _ _ _ _ hFr.s Tryz.underlying46 rfl (by kernel_rfl) ?_
    simp only[zp]
    have HFr:=Lib.hid hFr
    have Fj:=Lib.hid (yN s ⟨vt,vn,vw,vu,vr,vh,vk,vs⟩ es wr (HS.out wr (aH HB3.out HX.out.1)) HG.out)
    have uH:=l8
    have XP:=Lib.hid c8
    clear hFr c8 f8
    go_wp2_with fail
    refine Fj.out.mono ?_
    rintro e W4 ⟨hb4,wb,V',es',rfl,hO4⟩
    have aet:Zp<W3.heap.size:=(Array.getElem?_eq_some_iff.1 ZE.out.2.1).1
    have hsr:=HX.out.1.size
    have abK:=(hb4.block Zp (by omega)).trans ((HX.out.1.block Zp aet).trans ZE.out.2.1)
    obtain⟨c4,f4,l4⟩:=cells_of_block abK
    have hns:ns≠[]->mF wr.heap.size W4 (.slice o9 ps.length c9) ns:=fun hne=>by
     have hown4:=ah (Ms:=[]) HX.out.2.1 (Ext.of_below hb4) (by simp)
     have hlen:ps.length=ns.length:=by rw[HX.out.2.2.2.1,HO.out.2]
     have hpos:0<ps.length:=by rw[hlen];exact List.length_pos_iff.2 hne
     obtain⟨g,rfl,hcg,hfg,hgl⟩:=dU hown4 hpos
     obtain⟨g2,hg2,aiV,_,OZ⟩:=dU HX.out.2.1 hpos
     cases hg2
     refine⟨g,c9,by rw[hlen],OZ,fun j hj=>?_⟩
     have:=hcg j (by simpa [intCells] using hj)
     simpa [intCells] using this
    have ae9:=KW c
    have HA:=Lib.hid (WR c ns HX.out.2.2.2.1 HX.out.2.2.2.2 wr.heap.size W4 wb s V' es' (.slice o9 ps.length c9) hO4 hns HG.out)
    have HB4:=Lib.hid (aH HX.out.1 hb4)
    have Ql:=Lib.hid hO4
    clear abK hns hb4 hO4
    go_wp2_with fail
    refine HA.out.mono ?_
    rintro e W5 ⟨hb5,⟨h0,rfl,V2,es2,hO5⟩|⟨hne,rfl⟩⟩
    rotate_left
    ·have hd:oK aJ s l=(s,(act s c ns).1):=by rw[tC HX.out.2.2.1,if_pos hne]
     have abP:=HB4.out.trans (hb5.mono (show W3.heap.size<=wr.heap.size from hsr))
     exact UM.out _ hd W5 (aH HB3.out abP) (HF3.out.below abP (by omega)) _ rfl rfl
    have lD:=Lib.hid (HB4.out.trans (hb5.mono (show W3.heap.size<=wr.heap.size from hsr)))
    have HO5:=Lib.hid (And.intro h0 hO5)
    have hl5:=hO5.rows.lt
    have HST:=Lib.hid (NQ (act s c ns).2 V2 es2 W5 hO5.st)
    have hk5:=hO5.blk
    clear hb5 h0 hO5 HA c4 f4 ae9
    go_upto_region 15 with(fail)
    refine wp_region_lit ?_
    refine az rfl _ (by go_simp;first|rfl|exact⟨rfl,rfl⟩) ?_
    simp only[zp]
    refine az rfl _ (by go_simp;first|rfl|exact⟨rfl,rfl⟩) ?_
    simp only[zp]
    refine az rfl _ (by go_simp;first|rfl|exact⟨rfl,rfl⟩) ?_
    simp only[zp]
    refine wpList_load_row rfl _ _ rfl wb rfl _ _ _ _ hk5 Tryz.underlying46 rfl (by kernel_rfl) ?_
    simp only[zp]
    have WY:=Lib.hid hk5
    clear hk5
    go_wp2_with fail
    refine HST.out.mono ?_
    rintro e W6 ⟨hb6,⟨h0,rfl⟩|⟨hne,rfl⟩⟩
    rotate_left
    ·have hd:oK aJ s l=(s,aJ (act s c ns).2):=by rw[tC HX.out.2.2.1,if_neg (by rw[HO5.out.1];simp),if_pos hne]
     have abO:=aH lD.out hb6
     exact UM.out _ hd W6 (aH HB3.out abO) (HF3.out.below abO (by omega)) _ rfl rfl
    have lT:=Lib.hid (aH lD.out hb6)
    have hk6:=(hb6.block wb hl5).trans WY.out
    have Fv:=Lib.hid (And.intro h0 (HO5.out.2.below hb6))
    clear hb6 h0 HST
    go_upto_region 16 with(fail)
    refine wp_region_lit ?_
    refine az rfl _ (by go_simp;first|rfl|exact⟨rfl,rfl⟩) ?_
    simp only[zp]
    refine az rfl _ (by go_simp;first|rfl|exact⟨rfl,rfl⟩) ?_
    simp only[zp]
    refine az rfl _ (by go_simp;first|rfl|exact⟨rfl,rfl⟩) ?_
    simp only[zp]
    refine wpList_load_row rfl _ _ rfl wb rfl _ _ _ _ hk6 Tryz.underlying46 rfl (by kernel_rfl) ?_
    simp only[zp]
    have Y3:=HF3.out.below lT.out (by omega)
    obtain⟨A6,hA6,ab8⟩:=Y3.a
    obtain⟨ec6,yA⟩:=Y3.e
    refine wpList_store_row rfl _ _ _ rfl (w.heap.size+1) _ rfl rfl _ _ hA6 (by kernel_rfl) (by rw[ab8];rfl) (by rw[Array.all_eq_true_iff_forall_mem];exact fun u hu=>fO Fv.out.2.st u (Array.mem_toList_iff.2 hu)) ?_
    simp only[zp]
    refine jA fun W7 Bj=>?_
    have hA7:W7.heap[w.heap.size+1]? =some (.cells (bV (act s c ns).2 V2) 46 (0,0)):=by rw[Bj];exact setRow_heap W6 _ A6 _ _ _ hA6
    have Y7:Ext [w.heap.size+1] W6 W7:=by rw[Bj];exact dX
    have uV:=(Y7.block (w.heap.size+2) (Array.getElem?_eq_some_iff.1 yA).1 (by simp)).trans yA
    obtain⟨c7,f7,l7⟩:=cells_of_block uV
    have c70:=c7 0
    simp at c70
    have Zx:=Lib.hid (And.intro hA7 (And.intro Y7 uV))
    clear Bj hA7 Y7 uV hA6 yA Y3 ab8 c7 hk6
    go_wp2_with fail
    have hd:oK aJ s l=((act s c ns).2,0):=by rw[tC HX.out.2.2.1,if_neg (by rw[HO5.out.1];simp),if_neg (by rw[Fv.out.1];simp)]
    have EJ:Ext [w.heap.size+1,w.heap.size+2] W6 (W7.setCell ⟨w.heap.size+2,0,none⟩ (iv 0)):=(Zx.out.2.1.more (by simp)).trans (dO.more (by simp))
    have hA8:=(heap_setCell_other W7 ⟨w.heap.size+2,0,none⟩ (w.heap.size+1) (iv 0) (by simp)).trans Zx.out.1
    have abN:=lT.out
    have hsb:=abN.size
    refine GN rfl hA8 (ak Zx.out.2.2 _) _ _ rfl rfl ⟨?_,V2,es2,?_,?_,fun W' hE'=>?_⟩
    ·exact(aH HB3.out abN).trans ⟨EJ.os,EJ.tape,EJ.output,EJ.size,fun k hk=>EJ.block k (by have:=HB3.out.size;omega) (by simp;omega)⟩
    ·rw[hd]
    ·rw[hd]
     have zU:=Fv.out.2
     have hNb:=zU.rows.base
     exact(show gU wr.heap.size _ wb (act s c ns).2 V2 es2 from⟨(EJ.block wb zU.rows.lt (by simp;omega)).trans zU.blk,zU.rows.keep EJ (fun m hm=> .inr (by simp at hm;omega)),zU.es⟩).st
    ·rw[hd]
     have zU:=Fv.out.2
     have hNb:=zU.rows.base
     have hO9:gU wr.heap.size _ wb (act s c ns).2 V2 es2:=⟨(EJ.block wb zU.rows.lt (by simp;omega)).trans zU.blk,zU.rows.keep EJ (fun m hm=> .inr (by simp at hm;omega)),zU.es⟩
     have hsr:=HX.out.1.size
     have hs3:=HB3.out.size
     have hlt: ∀m∈Ms,m<wr.heap.size:=fun m hm=>by have:=HMS.out m hm;omega
     exact(show gU wr.heap.size W' wb (act s c ns).2 V2 es2 from⟨(hE'.block wb hO9.rows.lt (fun h=>by have:=hlt wb h;omega)).trans hO9.blk,hO9.rows.keep hE' (fun m hm=> .inr (hlt m hm)),hO9.es⟩).st
abbrev dJ:Array Value:=
 #[iv 0,iv 0,iv 0,iv 0,.slice none 0 0,iv 0,iv 0,iv 0,.slice none 0 0,iv 0,iv 0,iv 0,iv 0,iv 0,iv 0,iv 0,.slice none 0 0,.slice none 0 0,.slice none 0 0,.slice none 0 0,.slice none 0 0,.slice none 0 0]
abbrev rV (hp:Value) (wt:Value):Array Value:=
 #[iv 3,iv 2,iv 0,iv 3,.slice none 0 0,iv 10,iv 0,iv 2000,.slice none 0 0,iv 4,iv 10,iv 50,iv 10,iv 60,iv 30,iv 30,wt,.slice none 0 0,.slice none 0 0,hp,.slice none 0 0,.slice none 0 0]
theorem PN (w:World):Calls Tryz.prog 28 #[] w (fun e w'=>Below w.heap.size w w'/\ ∃V es,e= .returned (.agg (bV bJ V))/\kP w' bJ V es/\ ∀Ms:List Nat,(∀m∈Ms,m<w.heap.size)-> ∀W',Ext Ms w' W'->kP W' bJ V es):=by
 go_enter Tryz.func28,Tryz.ntmps28
 go_upto_region 1 with(fail)
 refine dD fun W1 hW1=>?_
 have hb1:Below w.heap.size w W1:=by rw[hW1];exact af (Below.refl _ _) _
 have hk1: ∃cs,W1.heap[w.heap.size]? =some (.cells cs 46 (0,0))/\cs.size=22:=by rw[hW1];exact⟨_,ag _ _,rfl⟩
 have hs1:W1.heap.size=w.heap.size+1:=by rw[hW1];simp
 have HB1:=Lib.hid hb1
 have U7:=Lib.hid hk1
 clear hW1 hb1 hk1
 refine wp_region_lit ?_
 refine az rfl (w':=W1) (.agg #[iv 0,iv 3]) (by as_aux_lemma=>kernel_rfl) ?_
 simp only[zp]
 refine az rfl (w':=W1) (.agg #[iv 3,iv 2,iv 0,iv 3,.slice none 0 0]) (by as_aux_lemma=>kernel_rfl) ?_
 simp only[zp]
 refine az rfl (w':=W1) (.agg #[iv 0,iv 2000]) (by as_aux_lemma=>kernel_rfl) ?_
 simp only[zp]
 refine az rfl (w':=W1) (.agg #[iv 3,iv 2,iv 0,iv 3,.slice none 0 0,iv 10,iv 0,iv 2000,.slice none 0 0]) (by as_aux_lemma=>kernel_rfl) ?_
 simp only[zp]
 refine az rfl (w':=W1) (.agg #[iv 30,iv 30]) (by as_aux_lemma=>kernel_rfl) ?_
 simp only[zp]
 refine az rfl (w':=W1) (.agg #[iv 4,iv 10,iv 50,iv 10,iv 60,iv 30,iv 30,.slice none 0 0,.slice none 0 0,.slice none 0 0]) (by as_aux_lemma=>kernel_rfl) ?_
 simp only[zp]
 refine az rfl (w':=W1) (.agg #[iv 40,iv 40]) (by as_aux_lemma=>kernel_rfl) ?_
 simp only[zp]
 refine az rfl (w':=W1.alloc (.cells #[iv 40,iv 40] 103 (0,0))) (.slice (some ⟨W1.heap.size,0,none⟩) 1 1) (by go_simp;try rfl) ?_
 simp only[zp]
 obtain⟨W2,hW2⟩: ∃W2,W2=W1.alloc (.cells #[iv 40,iv 40] 103 (0,0)):=⟨_,rfl⟩
 rw[<-hW2]
 have hb2:Below w.heap.size w W2:=by rw[hW2];exact af HB1.out _
 have hk2:=U7.out
 obtain⟨cs,hcs,hcz⟩:=hk2
 have hk2:W2.heap[w.heap.size]? =some (.cells cs 46 (0,0)):=by rw[hW2];exact(heap_alloc_old _ _ (by omega)).trans hcs
 have hh2:W2.heap[W1.heap.size]? =some (.cells #[iv 40,iv 40] 103 (0,0)):=by rw[hW2];exact ag _ _
 have hs2:W2.heap.size=w.heap.size+2:=by rw[hW2];simp;omega
 rw[hs1]
 rw[hs1] at hh2
 clear hW2
 refine az rfl (w':=W2) (.agg #[.slice (some ⟨w.heap.size+1,0,none⟩) 1 1,.slice none 0 0,.slice none 0 0]) (by as_aux_lemma=>kernel_rfl) ?_
 simp only[zp]
 refine az rfl (w':=W2) (.agg (rV (.slice (some ⟨w.heap.size+1,0,none⟩) 1 1) (.slice none 0 0))) (by as_aux_lemma=>kernel_rfl) ?_
 simp only[zp]
 refine az rfl (w':=(W2.alloc (.cells dJ 46 (0,0)))) (.pointer (some ⟨W2.heap.size,0,none⟩)) (by go_simp;try rfl) ?_
 simp only[zp]
 rw[hs2]
 refine wpList_store_row rfl _ _ _ rfl (w.heap.size+2) (rV (.slice (some ⟨w.heap.size+1,0,none⟩) 1 1) (.slice none 0 0)) (by as_aux_lemma=>kernel_rfl) (by as_aux_lemma=>kernel_rfl) _ dJ (by rw[<-hs2];exact ag _ _) (by kernel_rfl) (by as_aux_lemma=>kernel_rfl) (by as_aux_lemma=>kernel_rfl) ?_
 simp only[zp]
 refine jA fun W3 hW3=>?_
 have abE:W3.heap[w.heap.size+2]? =some (.cells (rV (.slice (some ⟨w.heap.size+1,0,none⟩) 1 1) (.slice none 0 0)) 46 (0,0)):=by
  rw[hW3];exact setRow_heap _ _ _ _ _ _ (by rw[<-hs2];exact ag _ _)
 obtain⟨wI,jR⟩: ∃wI,wI=W2.alloc (.cells dJ 46 (0,0)):=⟨_,rfl⟩
 rw[<-jR] at hW3
 have rE:Ext [w.heap.size+2] wI W3:=by rw[hW3];exact dX
 have hs2':wI.heap.size=w.heap.size+3:=by rw[jR];simp;omega
 have hb3:Below w.heap.size w W3:=iD (by rw[jR];exact af hb2 _) rE (by omega)
 have hs3:=rE.size
 have hk3:W3.heap[w.heap.size]? =some (.cells cs 46 (0,0)):=(rE.block _ (by omega) (by simp)).trans (by rw[jR];exact(heap_alloc_old _ _ (by omega)).trans hk2)
 have hh3:W3.heap[w.heap.size+1]? =some (.cells #[iv 40,iv 40] 103 (0,0)):=(rE.block _ (by omega) (by simp)).trans (by rw[jR];exact(heap_alloc_old _ _ (by omega)).trans hh2)
 have HB3:=Lib.hid hb3
 have HK3:=Lib.hid abE
 have HC3:=Lib.hid (And.intro hk3 (And.intro hcz hh3))
 clear hcs hcz hW3 jR rE abE hk3 hh3 hb2 hk2 hh2 hb3
 go_wp2_with fail
 go_loopw [12] (fun u wr=> ∃i:Nat,i<=5/\u= .int .i64 i/\Below w.heap.size w wr/\w.heap.size+3<=wr.heap.size/\ ∃(o:Option Addr) (c:Nat),wr.ownsRow (w.heap.size+3) 34 2 (.slice o i c) i (aj (List.replicate i (6,6)))/\
  wr.heap[w.heap.size+2]? =some (.cells (rV (.slice (some ⟨w.heap.size+1,0,none⟩) 1 1) (.slice o i c)) 46 (0,0))/\ ∀k,k<w.heap.size+3->k≠w.heap.size+2->wr.heap[k]? =W3.heap[k]?) (fun u _=>5-(intOf u).toNat)
 case atStart=>exact⟨0,by omega,rfl,HB3.out,by omega,none,0,⟨rfl,.inl ⟨rfl,rfl⟩⟩,HK3.out,fun _ _ _=>rfl⟩
 case round=>
  obtain⟨i,hi,rfl,hB,hsz,oo,oc,how,hbk,hoth⟩:=hrel
  obtain⟨c2,f2,l2⟩:=cells_of_block hbk
  by_cases hlt:i<5
  ·have HX:=Lib.hid (And.intro hB (And.intro how (And.intro hbk hoth)))
   have g16:=c2 16
   simp only[rV] at g16
   clear hB how hbk hoth c2
   go_wp2_with (at_builtin;go_loud (refine bQ rfl _ _ kK.JI rfl (w.heap.size+3) (.slice oo i oc) i (aj (List.replicate i (6,6))) rfl (ah (Ms:=[]) HX.out.2.1 (Ext.of_below (af (Below.refl _ _) _)) (by simp)) (.slice (some ⟨wr.heap.size,0,none⟩) 1 1) 1 [iv 6,iv 6] rfl (aB.of_block 2 1 (ag _ _) rfl (by decide)) (by simp[Value.oneCell']) (by omega) (by omega) (by simp;omega) ?_))
   intro v' W6 hown6 YQ _
   obtain⟨o6,c6,rfl⟩:=aK hown6
   have HP:=Lib.hid (WN (i:=16) (u:= .slice o6 (i+1) c6) HX.out.1 HX.out.2.1 (Ext.of_below (af (Below.refl _ _) _)) hown6 YQ hsz (by omega) (by omega) HX.out.2.2.1)
   obtain⟨aiU,aiK,ah8⟩:=cells_of_block (((rX HX.out.1 HX.out.2.1 (Ext.of_below (af (Below.refl _ _) _)) hown6 YQ (by omega) hsz).2.2 (w.heap.size+2) (by omega)).trans HX.out.2.2.1)
   clear hown6 YQ
   go_wp2_with fail
   go_roundw
   case rel=>
    refine⟨i+1,by omega,by go_num,HP.out.1,HP.out.2.1,o6,c6,?_,HP.out.2.2.2.1,fun k hk hne=>(HP.out.2.2.2.2 k hk hne).trans (HX.out.2.2.2 k hk hne)⟩
    have:=HP.out.2.2.1
    rw[List.replicate_succ']
    simpa [aj] using this
   case measure=>simp[intOf];omega
  ·obtain rfl:i=5:=by omega
   have HX:=Lib.hid (And.intro hB (And.intro how (And.intro hbk hoth)))
   clear hB how hbk hoth
   go_upto_region 6 with(fail)
   have hk0:=(HX.out.2.2.2 w.heap.size (by omega) (by omega)).trans HC3.out.1
   refine wp_region_lit ?_
   refine wpList_load_row rfl _ _ rfl (w.heap.size+2) rfl _ _ _ _ HX.out.2.2.1 Tryz.underlying46 rfl (by kernel_rfl) ?_
   simp only[zp]
   refine wpList_store_row rfl _ _ _ rfl w.heap.size (rV (.slice (some ⟨w.heap.size+1,0,none⟩) 1 1) (.slice oo (5:Nat) oc)) (by as_aux_lemma=>kernel_rfl) (by as_aux_lemma=>kernel_rfl) _ cs hk0 (by kernel_rfl) (by rw[HC3.out.2.1];rfl) (by as_aux_lemma=>kernel_rfl) ?_
   simp only[zp]
   refine jA fun W7 Bj=>?_
   have uV:Ext [w.heap.size] wr W7:=by rw[Bj];exact dX
   have hb7:=iD HX.out.1 uV (Nat.le_refl _)
   have vT:W7.heap[w.heap.size]? =some (.cells (rV (.slice (some ⟨w.heap.size+1,0,none⟩) 1 1) (.slice oo (5:Nat) oc)) 46 (0,0)):=by rw[Bj];exact setRow_heap _ _ _ _ _ _ hk0
   have hw7:=ah (Ms:=[w.heap.size]) HX.out.2.1 uV (by simp)
   have hh7:=(uV.block (w.heap.size+1) (by omega) (by simp)).trans ((HX.out.2.2.2 (w.heap.size+1) (by omega) (by omega)).trans HC3.out.2.2)
   have H7:=Lib.hid (And.intro hb7 (And.intro vT (And.intro hw7 hh7)))
   clear Bj uV hb7 vT hw7 hh7 hk0
   go_upto_region 7 with(fail)
   refine bodyPost_ret (v:= .agg (rV (.slice (some ⟨w.heap.size+1,0,none⟩) 1 1) (.slice oo (5:Nat) oc))) (results_cell_row Tryz.results28 _ _ w.heap.size _ _ (0,0) _ rfl H7.out.2.1 Tryz.underlying46 rfl (by kernel_rfl)) rfl ?_
   refine⟨H7.out.1,⟨.slice none 0 0,.slice none 0 0,.slice oo (5:Nat) oc,.slice none 0 0,.slice none 0 0,.slice (some ⟨w.heap.size+1,0,none⟩) 1 1,.slice none 0 0,.slice none 0 0⟩,[],rfl,?_⟩
   have hst: ∀Ms:List Nat,(∀m∈Ms,m<w.heap.size)-> ∀W',Ext Ms W7 W'->kP W' bJ ⟨.slice none 0 0,.slice none 0 0,.slice oo (5:Nat) oc,.slice none 0 0,.slice none 0 0,.slice (some ⟨w.heap.size+1,0,none⟩) 1 1,.slice none 0 0,.slice none 0 0⟩ []:=fun Ms hMs W' hE'=>by
    have hn: ∀k,aB k W' (.slice none 0 0) 0 []:=fun k=>⟨by simp,none,0,rfl,Nat.le_refl _,by decide,fun _=>rfl,fun a h=>by cases h⟩
    have h1:=ah (Ms:=Ms) H7.out.2.2.1 hE' (fun m hm=>by have:=hMs m hm;omega)
    have h2:=(hE'.block (w.heap.size+1) (Array.getElem?_eq_some_iff.1 H7.out.2.2.2).1 (fun h=>by have:=hMs _ h;omega)).trans H7.out.2.2.2
    exact⟨hn _,hn _,aB.dn h1,hn _,hn _,⟨aB.of_block 2 1 h2 rfl (by decide),⟨hn _,fun e he=>by cases he⟩,rfl,hn _⟩⟩
   exact⟨hst [] (by simp) _ (Ext.refl _ _),hst⟩
theorem aaq:fD Tryz.prog 47 48 (iv 0) 1 8:=⟨Tryz.underlying47,by kernel_rfl,rfl,by omega⟩
theorem BK {w:World} {o:Option Addr} {n c:Nat} {l:List Bytes} (h:aB 1 w (.slice o n c) n (bT l)) {k:Nat} (hk:k<l.length):
 ∃b off,o=some ⟨b,off,none⟩/\b<w.heap.size/\w.cell? ⟨b,off+k,none⟩=some (.string (dW l[k])):=by
 obtain⟨hl,o',c',hv,h1,h2,h3,h4⟩:=h
 cases hv
 have hn:n=l.length:=by simpa [bT] using hl.symm
 cases o with
 |none=>have:=h3 rfl;omega
 |some a=>
  obtain⟨b,off,sp⟩:=a
  obtain⟨hs,hc⟩:=h4 _ rfl
  simp only at hs hc
  subst hs
  have:=hc k (.string (dW l[k])) (by simp[bT,hk])
  exact⟨b,off,rfl,World.block_lt_of_cell? w _ this,this⟩
def acE (Qs:List Nat) (ls:List Bytes) (w:World) (e:Ending) (w':World):Prop:=
 Below w.heap.size w w'/\ ∃V es cv,e= .returned (.tuple #[.agg (bV (dH aJ bJ ls).1 V),cv])/\(∀W',Ext Qs w' W'->kP W' (dH aJ bJ ls).1 V es)/\w'.ownsRow w.heap.size 48 1 cv ls.length (intCells (dH aJ bJ ls).2)
theorem vH (lv:Value) (ls:List Bytes) (w:World) (hls:gI w lv ls) (hE:Env w) (hln: ∀l∈ls,l.length<=1000) (hn:ls.length<=1000000) (Qs:List Nat) (hQs: ∀m∈Qs,m<w.heap.size):Calls Tryz.prog 15 #[lv] w (acE Qs ls w):=by
 obtain⟨ov,cv,rfl⟩:=aB.open hls
 have Jh:Hid (∀W,Below w.heap.size w W->gI W (.slice ov ls.length cv) ls):=Lib.hid (fun W hb=>hls.below hb (Nat.le_refl _))
 have HE:Hid (∀W,Below w.heap.size w W->Env W):=Lib.hid (fun W hb=>hE.below hb (Nat.le_refl _))
 clear hls hE
 go_enter Tryz.func15,Tryz.ntmps15
 go_upto_region 1 with(fail)
 refine dD fun W1 hW1=>?_
 have hb1:Below w.heap.size w W1:=by rw[hW1];exact af (Below.refl _ _) _
 have hk1: ∃cs,W1.heap[w.heap.size]? =some (.cells cs 46 (0,0))/\cs.size=22:=by rw[hW1];exact⟨_,ag _ _,rfl⟩
 have hs1:W1.heap.size=w.heap.size+1:=by rw[hW1];simp
 have HB1:=Lib.hid hb1
 have U7:=Lib.hid hk1
 clear hW1 hb1 hk1
 go_wp2_with fail
 refine(PN W1).mono ?_
 rintro e W2 ⟨hb2,V0,es0,rfl,hS0,hX0⟩
 rename_i hK
 refine hK _ _ ?_
 have hs2:=hb2.size
 refine az rfl (w':=(W2.alloc (.cells dJ 46 (0,0)))) (.pointer (some ⟨W2.heap.size,0,none⟩)) (by go_simp;try rfl) ?_
 simp only[zp]
 obtain⟨g,hg⟩: ∃g,g=W2.heap.size:=⟨_,rfl⟩
 rw[<-hg]
 have hz:(W2.alloc (.cells dJ 46 (0,0))).heap[g]? =some (.cells dJ 46 (0,0)):=by rw[hg];exact ag _ _
 refine wpList_store_row rfl _ _ _ rfl g (bV bJ V0) (by as_aux_lemma=>kernel_rfl) (by as_aux_lemma=>kernel_rfl) _ dJ hz (by kernel_rfl) (by as_aux_lemma=>kernel_rfl) (by rw[Array.all_eq_true_iff_forall_mem];exact fun u hu=>fO hS0 u (Array.mem_toList_iff.2 hu)) ?_
 simp only[zp]
 refine jA fun W3 hW3=>?_
 obtain⟨wI,jR⟩: ∃wI,wI=W2.alloc (.cells dJ 46 (0,0)):=⟨_,rfl⟩
 rw[<-jR] at hW3 hz
 have rE:Ext [g] wI W3:=by rw[hW3];exact dX
 have hs3:=rE.size
 have hs2':wI.heap.size=g+1:=by rw[jR,hg];simp
 have kM:Below W2.heap.size W2 W3:=iD (by rw[jR];exact af (Below.refl _ _) _) rE (by omega)
 have hS3:kP W3 bJ V0 es0:=hS0.below kM (Nat.le_refl _)
 have hk3:W3.heap[g]? =some (.cells (bV bJ V0) 46 (0,0)):=by rw[hW3];exact setRow_heap _ _ _ _ _ _ hz
 have hX3: ∀W',Ext (w.heap.size::g::Qs) W3 W'->kP W' bJ V0 es0:=fun W' hE'=>hX0 (w.heap.size::Qs) (fun m hm=>by
  rcases List.mem_cons.1 hm with rfl|hm
  ·omega
  ·have:=hQs m hm;omega) W' ⟨kM.os▸hE'.os,hE'.tape.trans kM.tape,hE'.output.trans kM.output,Nat.le_trans kM.size hE'.size,fun k hk hm=>(hE'.block k (by omega) (fun h=>by
   rcases List.mem_cons.1 h with h|h
   ·exact hm (by rw[h];exact List.mem_cons_self)
   ·rcases List.mem_cons.1 h with h|h
    ·omega
    ·exact hm (List.mem_cons_of_mem _ h))).trans (kM.block k hk)⟩
 have hr3: ∃cs,W3.heap[w.heap.size]? =some (.cells cs 46 (0,0))/\cs.size=22:=by
  obtain⟨cs,h1,h2⟩:=U7.out
  exact⟨cs,(kM.block _ (by omega)).trans ((hb2.block _ (by omega)).trans h1),h2⟩
 have HB3:=Lib.hid (aH HB1.out (aH hb2 kM))
 have H3:=Lib.hid (And.intro hS3 (And.intro hk3 (And.intro hr3 hX3)))
 have hgw:w.heap.size+1<=g:=by omega
 have hg3:g+1<=W3.heap.size:=by omega
 clear hX3 hX0 hW3 jR rE kM hS3 hk3 hr3 hz hS0 hb2 hg hK
 go_wp2_with fail
 go_loopw [5,13] (fun v5 u wr=> ∃i:Nat,i<=ls.length/\u= .int .i64 i/\Below w.heap.size w wr/\W3.heap.size<=wr.heap.size/\ ∃(o:Option Addr) (c:Nat) (V:SV) (es:List KE),v5= .slice o i c/\wr.ownsRow W3.heap.size 48 1 (.slice o i c) i (intCells (dH aJ bJ (ls.take i)).2)/\
  wr.heap[g]? =some (.cells (bV (dH aJ bJ (ls.take i)).1 V) 46 (0,0))/\kP wr (dH aJ bJ (ls.take i)).1 V es/\wr.heap[w.heap.size]? =W3.heap[w.heap.size]?/\ ∀W',Ext (w.heap.size::g::((Value.slice o i c).ownBlock.toList++Qs)) wr W'->kP W' (dH aJ bJ (ls.take i)).1 V es) (fun _ u _=>ls.length-(intOf u).toNat)
 case atStart=>exact⟨0,Nat.zero_le _,rfl,HB3.out,Nat.le_refl _,none,0,V0,es0,rfl,⟨rfl,.inl ⟨rfl,rfl⟩⟩,H3.out.2.1,H3.out.1,rfl,H3.out.2.2.2⟩
 case round=>
  obtain⟨i,hi,rfl,hB,hsz,oo,oc,V,es,rfl,how,hbk,hS,hr0,hXM⟩:=hrel
  by_cases hlt:i<ls.length
  ·obtain⟨bl,off,hov,hbl,hcl⟩:=BK (Jh.out _ hB) hlt
   have HX:=Lib.hid (And.intro hB (And.intro how (And.intro hbk (And.intro hS (And.intro hr0 hXM)))))
   have HD:=Lib.hid (Zf (dH aJ bJ (ls.take i)).1 V es ls[i] wr hS (BU _ Ak) (HE.out wr hB) (hln _ (List.getElem_mem hlt)) (w.heap.size::g::((Value.slice oo i oc).ownBlock.toList++Qs)) (fun m hm=>by
    rcases List.mem_cons.1 hm with rfl|hm
    ·omega
    ·rcases List.mem_cons.1 hm with rfl|hm
     ·omega
     ·rcases List.mem_append.1 hm with hm|hm
      ·exact(aZ how m (Option.mem_toList.1 hm)).2
      ·have:=hQs m hm;omega) hXM)
   subst hov
   clear hB how hbk hS hr0 hXM
   go_upto_region 6 with(fail)
   refine wp_region_lit ?_
   refine wpList_load_row rfl _ _ rfl g rfl _ _ _ _ HX.out.2.2.1 Tryz.underlying46 rfl (by kernel_rfl) ?_
   simp only[zp]
   go_wp2_with fail
   refine HD.out.mono ?_
   rintro e W4 ⟨hb4,V4,es4,rfl,hS4,hX4⟩
   rename_i hK
   refine hK _ _ ?_
   refine az rfl _ (by go_simp;first|rfl|exact⟨rfl,rfl⟩) ?_
   simp only[zp]
   refine az rfl _ (by go_simp;first|rfl|exact⟨rfl,rfl⟩) ?_
   simp only[zp]
   refine az rfl _ (by go_simp;first|rfl|exact⟨rfl,rfl⟩) ?_
   simp only[zp]
   obtain⟨q,hq⟩: ∃q,q=W4.heap.size:=⟨_,rfl⟩
   have hs4:=hb4.size
   refine az rfl (w':=W4.alloc (.cells dJ 46 (0,0))) (.pointer (some ⟨q,0,none⟩)) (by rw[hq];go_simp;try rfl) ?_
   simp only[zp]
   have hz:(W4.alloc (.cells dJ 46 (0,0))).heap[q]? =some (.cells dJ 46 (0,0)):=by rw[hq];exact ag _ _
   refine wpList_store_row rfl _ _ _ rfl q (bV (oK aJ (dH aJ bJ (ls.take i)).1 ls[i]).1 V4) (by as_aux_lemma=>kernel_rfl) (by as_aux_lemma=>kernel_rfl) _ dJ hz (by kernel_rfl) (by as_aux_lemma=>kernel_rfl) (by rw[Array.all_eq_true_iff_forall_mem];exact fun u hu=>fO hS4 u (Array.mem_toList_iff.2 hu)) ?_
   simp only[zp]
   refine jA fun W5 xu=>?_
   obtain⟨W4',V5⟩: ∃W4',W4'=W4.alloc (.cells dJ 46 (0,0)):=⟨_,rfl⟩
   rw[<-V5] at xu hz
   have TS:Ext [q] W4' W5:=by rw[xu];exact dX
   have ah9:W4'.heap.size=q+1:=by rw[V5,hq];simp
   have hs5:=TS.size
   have YX:Below W4.heap.size W4 W5:=iD (by rw[V5];exact af (Below.refl _ _) _) TS (by omega)
   have hk5:W5.heap[q]? =some (.cells (bV (oK aJ (dH aJ bJ (ls.take i)).1 ls[i]).1 V4) 46 (0,0)):=by rw[xu];exact setRow_heap _ _ _ _ _ _ hz
   have hb5:=aH hb4 YX
   have H5:=Lib.hid (And.intro hb5 (And.intro YX (And.intro hk5 (And.intro hS4 hX4))))
   clear xu V5 TS YX hk5 hz hS4 hX4 hb4 hb5 hK
   go_upto_region 7 with(fail)
   have hTK:dH aJ bJ (ls.take (i+1))=((oK aJ (dH aJ bJ (ls.take i)).1 ls[i]).1,(dH aJ bJ (ls.take i)).2++[(oK aJ (dH aJ bJ (ls.take i)).1 ls[i]).2]):=by rw[List.take_succ_eq_append_getElem hlt,Ob]
   obtain⟨code,hcode⟩: ∃code,code=(oK aJ (dH aJ bJ (ls.take i)).1 ls[i]).2:=⟨_,rfl⟩
   rw[<-hcode] at hTK⊢
   obtain⟨Ms,hMs⟩: ∃Ms,Ms=(Value.slice oo i oc).ownBlock.toList:=⟨_,rfl⟩
   have hm0: ∀m∈Ms,W3.heap.size<=m/\m<wr.heap.size:=fun m h=>aZ HX.out.2.1 m (by rw[hMs] at h;exact Option.mem_toList.1 h)
   have qy: ∀m∈Ms,m<W5.heap.size:=fun m h=>by have:=hm0 m h;omega
   have hm1:q∉Ms:=fun h=>by have:=hm0 q h;omega
   have hm2:g∉Ms:=fun h=>by have:=hm0 g h;omega
   have hq5:q<W5.heap.size:=by omega
   have Jf:=Lib.hid hTK
   have HM:=Lib.hid hMs
   clear hTK hMs hcode
   refine zg 5 Ms (some 4) [(3,Spec.slice W5.heap.size #[iv code] 48 1),(4,⟨fun _ v=> ∃o2 c2,v= .slice o2 (i+1) c2,fun _ v Wx=>Wx.ownsRow W3.heap.size 48 1 v (i+1) (intCells (dH aJ bJ (ls.take i)).2++[iv code])/\(v.ownBlock=(Value.slice oo i oc).ownBlock∨ ∃q,v.ownBlock=some q/\W5.heap.size<=q)⟩)] ?_
   simp only[zt]
   refine eG (by rfl) (.agg (bV (oK aJ (dH aJ bJ (ls.take i)).1 ls[i]).1 V4)) (by rfl) (fun W hE hF=>?_) ?_
   ·exact uq _ _ rfl q rfl _ _ _ _ ((hE.block q hq5 hm1).trans H5.out.2.2.1) Tryz.underlying46 rfl (by kernel_rfl)
   simp only[zp]
   repeat ((first|refine zd ?_|refine zk ?_);simp only[zp])
   refine bZ W5.heap.size _ _ 1 (by rfl) (Nat.le_refl _) (by rfl) qy (by simp) (fun W hW=>by go_simp;try rfl) (fun b6=>?_)
   simp only[zp]
   refine aP _ (by rfl) (by rfl) (by exact⟨.slice none (i+1) 0,none,0,rfl⟩) (fun W6 hE hF=>?_) (fun v Wa Wb ho hE=>?_) (fun v hv=>?_)
   ·have hE':Ext [] W5 W6:=hE
    obtain⟨b',hb',hge,hcc⟩:=hF _ (List.Mem.head _) (by kernel_rfl)
    cases hb'
    have hown6:=ah (Ms:=[]) HX.out.2.1 ((Ext.of_below H5.out.1).trans hE') (by simp)
    have hsrc:aB 1 W6 (.slice (some ⟨b6,0,none⟩) 1 1) 1 ([iv code]):=aB.of_block 1 1 hcc rfl (by decide)
    refine Does.mono (bP aaq (by rfl) (by rfl) hown6 (by rfl) hsrc (one_one code) (by omega) (by omega) (by have:=hE'.size;omega)) ?_
    rintro v' W7 ⟨ho,hgr,hcase⟩
    refine⟨aA ho,⟨ho,hcase.imp id fun h1=>⟨_,h1,hE'.size⟩⟩,⟨hgr.os,hgr.tape,hgr.output,hgr.size,fun b hb hn=>hgr.block b hb (fun e=>hn (by rw[HM.out];exact Option.mem_toList.2 e.symm))⟩⟩
   ·exact⟨ah (Ms:=[]) ho.1 hE (by simp),ho.2⟩
   obtain⟨o7,c7,rfl⟩:=hv
   simp only[zp]
   intro W6 hE hF
   obtain⟨Tn,hg6⟩:=hF _ (List.Mem.head _)
   have yA:Ext Ms W5 W6:=hE
   have hs6:=yA.size
   have hkg:=(yA.block g (by omega) hm2).trans ((H5.out.1.block g (by omega)).trans HX.out.2.2.1)
   refine wpList_store_row rfl _ _ _ rfl g (bV (oK aJ (dH aJ bJ (ls.take i)).1 ls[i]).1 V4) (by as_aux_lemma=>kernel_rfl) (by as_aux_lemma=>kernel_rfl) _ _ hkg (by kernel_rfl) rfl (by rw[Array.all_eq_true_iff_forall_mem];exact fun u hu=>fO H5.out.2.2.2.1 u (Array.mem_toList_iff.2 hu)) ?_
   simp only[zp]
   refine jA fun W7 Bj=>?_
   have uV:Ext [g] W6 W7:=by rw[Bj];exact dX
   have vT:W7.heap[g]? =some (.cells (bV (oK aJ (dH aJ bJ (ls.take i)).1 ls[i]).1 V4) 46 (0,0)):=by rw[Bj];exact setRow_heap _ _ _ _ _ _ hkg
   have hs7:=uV.size
   have abM:Below w.heap.size w W7:=by
    have aeW:=aH HX.out.1 H5.out.1
    exact aeW.trans ⟨uV.os.trans yA.os,uV.tape.trans yA.tape,uV.output.trans yA.output,by omega,fun k hk=>(uV.block k (by omega) (by simp;omega)).trans (yA.block k (by omega) (fun h=>by have:=hm0 k h;omega))⟩
   have ho7:=ah (Ms:=[g]) Tn uV (by simp;omega)
   have MZ:W7.heap[w.heap.size]? =W3.heap[w.heap.size]? :=(uV.block _ (by omega) (by simp;omega)).trans ((yA.block _ (by omega) (fun h=>by have:=hm0 _ h;omega)).trans ((H5.out.1.block _ (by omega)).trans HX.out.2.2.2.2.1))
   have hX7: ∀W',Ext (w.heap.size::g::((Value.slice o7 (i+1) c7).ownBlock.toList++Qs)) W7 W'->kP W' (oK aJ (dH aJ bJ (ls.take i)).1 ls[i]).1 V4 es4:=fun W' hE'=>by
    have h45:=H5.out.2.1
    have ai4:=h45.size
    refine H5.out.2.2.2.2 W' ⟨hE'.os.trans (uV.os.trans (yA.os.trans h45.os)),hE'.tape.trans (uV.tape.trans (yA.tape.trans h45.tape)),hE'.output.trans (uV.output.trans (yA.output.trans h45.output)),by have:=hE'.size;omega,fun k hk hm=>?_⟩
    have n1:k≠w.heap.size:=fun e=>hm (by simp[e])
    have n2:k≠g:=fun e=>hm (by simp[e])
    have n3:k∉(Value.slice oo i oc).ownBlock.toList:=fun h=>hm (List.mem_cons_of_mem _ (List.mem_cons_of_mem _ (List.mem_append_left _ h)))
    have n5:k∉Qs:=fun h=>hm (List.mem_cons_of_mem _ (List.mem_cons_of_mem _ (List.mem_append_right _ h)))
    have n4:k∉(Value.slice o7 (i+1) c7).ownBlock.toList:=fun h=>by
     rcases hg6 with h1|⟨x,h1,h2⟩
     ·rw[h1] at h;exact n3 h
     ·rw[h1] at h;simp at h;omega
    exact(hE'.block k (by omega) (fun h=>by rcases List.mem_cons.1 h with h|h;(exact n1 h);rcases List.mem_cons.1 h with h|h;(exact n2 h);rcases List.mem_append.1 h with h|h;(exact n4 h);exact n5 h)).trans ((uV.block k (by omega) (by simpa using n2)).trans ((yA.block k (by omega) (by rw[HM.out];exact n3)).trans (h45.block k hk)))
   have SI:kP W7 (oK aJ (dH aJ bJ (ls.take i)).1 ls[i]).1 V4 es4:=hX7 W7 (Ext.refl _ _)
   have H7:=Lib.hid (And.intro abM (And.intro ho7 (And.intro vT (And.intro SI (And.intro MZ hX7)))))
   have aeg:W3.heap.size<=W7.heap.size:=by omega
   clear abM ho7 vT SI MZ hX7 Bj uV yA hE hF Tn hg6 hkg
   go_wp2_with fail
   go_roundw
   case rel=>
    refine⟨i+1,by omega,by go_num,H7.out.1,aeg,o7,c7,V4,es4,rfl,?_⟩
    rw[Jf.out]
    refine⟨?_,H7.out.2.2.1,H7.out.2.2.2.1,H7.out.2.2.2.2.1,H7.out.2.2.2.2.2⟩
    simpa [intCells] using H7.out.2.1
   case measure=>simp[intOf];omega
  ·obtain rfl:i=ls.length:=by omega
   have HX:=Lib.hid (And.intro hB (And.intro how (And.intro hbk (And.intro hS (And.intro hr0 hXM)))))
   clear hB how hbk hS hr0 hXM
   go_upto_region 9 with(fail)
   obtain⟨cs,hcs,hcz⟩:=H3.out.2.2.1
   have hk0:=HX.out.2.2.2.2.1.trans hcs
   refine wp_region_lit ?_
   refine wpList_load_row rfl _ _ rfl g rfl _ _ _ _ HX.out.2.2.1 Tryz.underlying46 rfl (by kernel_rfl) ?_
   simp only[zp]
   refine az rfl _ (by go_simp;first|rfl|exact⟨rfl,rfl⟩) ?_
   simp only[zp]
   refine wpList_store_row rfl _ _ _ rfl w.heap.size (bV (dH aJ bJ (ls.take ls.length)).1 V) (by as_aux_lemma=>kernel_rfl) (by as_aux_lemma=>kernel_rfl) _ cs hk0 (by kernel_rfl) (by rw[hcz];rfl) (by rw[Array.all_eq_true_iff_forall_mem];exact fun u hu=>fO HX.out.2.2.2.1 u (Array.mem_toList_iff.2 hu)) ?_
   simp only[zp]
   refine jA fun W7 Bj=>?_
   have uV:Ext [w.heap.size] wr W7:=by rw[Bj];exact dX
   have hb7:=iD HX.out.1 uV (Nat.le_refl _)
   have vT:W7.heap[w.heap.size]? =some (.cells (bV (dH aJ bJ (ls.take ls.length)).1 V) 46 (0,0)):=by rw[Bj];exact setRow_heap _ _ _ _ _ _ hk0
   have hw7:=ah (Ms:=[w.heap.size]) HX.out.2.1 uV (by simp;omega)
   have SI: ∀W',Ext Qs W7 W'->kP W' (dH aJ bJ (ls.take ls.length)).1 V es:=fun W' hE'=>HX.out.2.2.2.2.2 W' ((uV.more (by simp)).trans (hE'.more (fun m hm=>List.mem_cons_of_mem _ (List.mem_cons_of_mem _ (List.mem_append_right _ hm)))))
   have H7:=Lib.hid (And.intro hb7 (And.intro vT (And.intro hw7 SI)))
   clear Bj uV hb7 vT hw7 hk0 SI
   go_wp2_with fail
   refine bodyPost_ret (v:= .tuple #[.agg (bV (dH aJ bJ (ls.take ls.length)).1 V),.slice oo ls.length oc]) ?_ rfl ?_
   ·have q1:=run_loadVar_row (P:=Tryz.prog) W7 w.heap.size 46 46 _ (0,0) _ H7.out.2.1 Tryz.underlying46 rfl (by kernel_rfl)
    simp[results,Tryz.results15,asAddr,q1]
   ·have h7:=H7.out
    rw[List.take_length] at h7⊢
    exact⟨h7.1,V,es,_,rfl,h7.2.2.2,bH h7.2.2.1 (by omega)⟩
theorem OA (k:Int) (l:Bytes) (w:World) (hl:l.length<=1000000):Calls Tryz.prog 26 #[iv k,.string (dW l)] w (PV (.bool (decide ((l.length:Int)<=k))) w):=by
 have hs:(dW l).size=l.length:=by simp[ByteArray.size]
 go_enter Tryz.func26,Tryz.ntmps26
 go_wp2_with fail
 go_returns
 exact⟨rfl,Below.refl _ _⟩
abbrev sv (l:Bytes):Value:= .string (dW l)
theorem gI.cell {w:World} {o:Option Addr} {n c:Nat} {l:List Bytes} (h:aB 1 w (.slice o n c) n (bT l)) {k:Nat} (hk:k<l.length):
 ∃b off,o=some ⟨b,off,none⟩/\b<w.heap.size/\w.cell? ⟨b,off+k,none⟩=some (sv l[k]):=BK h hk
theorem ad1 (l:List Bytes) (v:Value) (aI:Nat) (fst caps:Array Value) (p:Nat->Bool) (I:Nat->World->Prop) (w:World) (eg: ∀args w,(callFunc aI args).run Tryz.prog w= .ok (.enter aI args) w)
 (hsl: ∀k W,I k W->gI W v l)
 (hcall: ∀k (hk:k<l.length) W,(∀j,j<k->p j=false)->I k W->Calls Tryz.prog aI (fst.push (sv l[k])++caps) W (fun e W'=>e= .returned (.bool (p k))/\I (k+1) W')) (h0:I 0 w):
 Calls Tryz.prog 59 #[v,.func (.func aI) fst caps] w (dA l.length p I (fun k=>iv k) (iv (-1))):=by
 have hlen:=(hsl 0 w h0).len
 obtain⟨o,c,rfl⟩:=(hsl 0 w h0).open
 have HC:=Lib.hid hcall
 have HS:=Lib.hid hsl
 clear hcall hsl
 go_enter Tryz.func59,Tryz.ntmps59
 go_wp2
 go_loopw [4,5,8] (fun _ _ i wr=> ∃k:Nat,k<=l.length/\i= .int .i64 k/\(∀j,j<k->p j=false)/\I k wr) (fun _ _ i _=>l.length-(intOf i).toNat)
 case atStart=>exact⟨0,Nat.zero_le _,rfl,fun j hj=>by omega,h0⟩
 case round=>
  obtain⟨k,hk,rfl,hno,hI⟩:=hrel
  by_cases hlt:k<l.length
  ·obtain⟨b,off,rfl,hb,hc0⟩:=gI.cell (HS.out k wr hI) hlt
   have hC:=HC.out k hlt wr hno hI
   have HN:=Lib.hid hno
   clear hno
   go_wp2_with fail
   refine hC.mono ?_
   rintro e W1 ⟨rfl,hI1⟩
   have HI:=Lib.hid hI1
   clear hI1 hI hC
   cases hp:p k
   ·go_wp2_with fail
    go_roundw
    case rel=>exact⟨k+1,by omega,by go_num,fun j hj=>(by by_cases e:j=k;(subst e;exact hp);exact HN.out j (by omega)),HI.out⟩
    case measure=>simp[intOf];omega
   ·go_wp2_with fail
    go_returns
    exact⟨k,by omega,HN.out,.inl ⟨hlt,hp,by simp,HI.out⟩⟩
  ·have hkl:k=l.length:=by omega
   have HN:=Lib.hid hno
   clear hno
   go_wp2_with fail
   go_returns
   exact⟨k,by omega,HN.out,.inr ⟨hkl,by simp,by subst hkl;exact hI⟩⟩
theorem acf (l:List Bytes) (v:Value) (aI:Nat) (fst caps:Array Value) (p:Nat->Bool) (I:Nat->World->Prop) (w:World) (eg: ∀args w,(callFunc aI args).run Tryz.prog w= .ok (.enter aI args) w)
 (hsl: ∀k W,I k W->gI W v l)
 (hcall: ∀k (hk:k<l.length) W,(∀j,j<k->p j=false)->I k W->Calls Tryz.prog aI (fst.push (sv l[k])++caps) W (fun e W'=>e= .returned (.bool (p k))/\I (k+1) W')) (h0:I 0 w):
 Calls Tryz.prog 39 #[v,.func (.func aI) fst caps] w (dA l.length p I (fun _=> .bool true) (.bool false)):=by
 have HI:=Lib.hid (ad1 l v aI fst caps p I w eg hsl hcall h0)
 have hlen:=(hsl 0 w h0).len
 clear hsl hcall h0 eg
 go_enter Tryz.func39,Tryz.ntmps39
 go_wp2_with fail
 refine HI.out.mono ?_
 clear HI
 rintro e W' ⟨k,hk,hno,⟨hlt,hp,rfl,hI⟩|⟨hkl,rfl,hI⟩⟩
 ·have HN:=Lib.hid (And.intro hno (And.intro hp hI))
  clear hno hp hI
  go_wp2_with fail
  go_returns
  exact⟨k,hk,HN.out.1,.inl ⟨hlt,HN.out.2.1,by simp,HN.out.2.2⟩⟩
 ·have HN:=Lib.hid (And.intro hno (And.intro hkl hI))
  clear hno hkl hI
  go_wp2_with fail
  go_returns
  exact⟨k,hk,HN.out.1,.inr ⟨HN.out.2.1,by simp,HN.out.2.1▸HN.out.2.2⟩⟩
theorem Uy (b:Nat) (l:Bytes) (w:World) (hc:w.cell? ⟨b,0,none⟩=some (.func (.func 26) #[iv 60] #[])) (hl:l.length<=1000000):Calls Tryz.prog 40 #[sv l,.pointer (some ⟨b,0,none⟩)] w (PV (.bool (!decide ((l.length:Int)<=60))) w):=by
 have HC:=Lib.hid (OA 60 l w hl)
 go_enter Tryz.func40,Tryz.ntmps40
 go_wp2_with fail
 refine HC.out.mono ?_
 rintro e w' ⟨rfl,hb⟩
 go_wp2_with fail
 go_returns
 exact⟨rfl,hb⟩
theorem Uw (b:Nat) (l:List Bytes) (v:Value) (w:World) (hv:gI w v l) (hc:w.cell? ⟨b,0,none⟩=some (.func (.func 26) #[iv 60] #[])) (hb:b<w.heap.size) (hln: ∀x∈l,x.length<=1000000):Calls Tryz.prog 39 #[v,.func (.func 40) #[] #[.pointer (some ⟨b,0,none⟩)]] w (PV (.bool (l.any fun x=>!decide ((x.length:Int)<=60))) w):=by
 refine(acf l v 40 #[] #[.pointer (some ⟨b,0,none⟩)] (fun k=>!decide (((l.getD k []).length:Int)<=60)) (fun _ W=>Below w.heap.size w W) w (enters_of Tryz.func40 (by kernel_rfl) rfl) (fun k W h=>hv.below h (Nat.le_refl _)) (fun k hk W _ h=>?_) (Below.refl _ _)).mono ?_
 ·refine(Uy b l[k] W ((World.cell?_of_block (h.block b hb)).trans hc) (hln _ (List.getElem_mem hk))).mono ?_
  rintro e W' ⟨rfl,hb'⟩
  exact⟨by simp[hk],aH h hb'⟩
 ·rintro e W' ⟨k,hk,hno,⟨hlt,hp,rfl,hI⟩|⟨hkl,rfl,hI⟩⟩
  ·refine⟨?_,hI⟩
   have:(l.any fun x=>!decide ((x.length:Int)<=60))=true:=List.any_eq_true.2 ⟨l[k],List.getElem_mem _,by simpa [hlt] using hp⟩
   rw[this]
  ·refine⟨?_,hI⟩
   have:(l.any fun x=>!decide ((x.length:Int)<=60))=false:=by
    rw[List.any_eq_false]
    intro x hx
    obtain⟨j,hj,rfl⟩:=List.getElem_of_mem hx
    have:=hno j (by omega)
    simpa [hj] using this
   rw[this]
theorem WQ (l:List Bytes) (v:Value) (w:World) (hv:gI w v l) (hln: ∀x∈l,x.length<=1000000):Calls Tryz.prog 27 #[v,.func (.func 26) #[iv 60] #[]] w (PV (.bool (!(l.any fun x=>!decide ((x.length:Int)<=60)))) w):=by
 have HV:=Lib.hid hv
 clear hv
 go_enter Tryz.func27,Tryz.ntmps27
 go_upto_region 1 with(fail)
 refine dD fun W1 hW1=>?_
 have hb1:Below w.heap.size w W1:=by rw[hW1];exact af (Below.refl _ _) _
 have hc1:W1.cell? ⟨w.heap.size,0,none⟩=some (.func (.func 26) #[iv 60] #[]):=by rw[hW1];exact(cells_of_block (ag _ _)).1 0
 have hs1:w.heap.size<W1.heap.size:=by rw[hW1];simp
 have HA:=Lib.hid (Uw w.heap.size l v W1 (aB.below HV.out hb1 (Nat.le_refl _)) hc1 hs1 hln)
 have HB:=Lib.hid hb1
 clear hW1 hb1 hc1 hs1
 go_wp2_with fail
 refine HA.out.mono ?_
 rintro e w' ⟨rfl,hb⟩
 go_wp2_with fail
 go_returns
 exact⟨rfl,aH HB.out hb⟩
def eY (l:List Bytes):Int:=if 40<l.length∨(l.any fun x=>!decide ((x.length:Int)<=60))=true then 3 else 0
theorem Pg (l:List Bytes) (v:Value) (w:World) (hv:gI w v l) (hln: ∀x∈l,x.length<=1000000):Calls Tryz.prog 14 #[v] w (PV (iv (eY l)) w):=by
 have hlen:=hv.len
 obtain⟨o,c,rfl⟩:=aB.open hv
 have HA:=Lib.hid (WQ l _ w hv hln)
 clear hv
 go_enter Tryz.func14,Tryz.ntmps14
 go_wp2_with fail
 ·refine HA.out.mono ?_
  rintro e w' ⟨rfl,hb⟩
  cases hq:(l.any fun x=>!decide ((x.length:Int)<=60))
  all_goals
   go_wp2_with fail
   go_returns
   refine⟨?_,hb⟩
   simp only[eY,hq]
   simp
   try omega
 ·go_returns
  refine⟨?_,Below.refl _ _⟩
  rw[eY,if_pos (.inl (by omega))]
  rfl
def zeroS:gV:=
 {led:={field:={rows:=0,ai:=0,left:=(0,0),ae:=[]},rate:=0,box:=(0,0),notes:=[]}
  heap:={last:=0,size:=0,aY:=0,die:=0,pI:=0,start:=(0,0),bg:=[],turns:=[],readings:=[]}
  bG:={heaps:=[],aC:=[],au:=[]}}
def zeroV:SV:=⟨.slice none 0 0,.slice none 0 0,.slice none 0 0,.slice none 0 0,.slice none 0 0,.slice none 0 0,.slice none 0 0,.slice none 0 0⟩
theorem Jq:bV zeroS zeroV=dJ:=rfl
theorem Vd (w:World):kP w zeroS zeroV []:=by
 have hn: ∀k,aB k w (.slice none 0 0) 0 []:=fun k=>aB.nil k w
 exact⟨hn _,hn _,hn _,hn _,hn _,⟨hn _,⟨hn _,fun e he=>by cases he⟩,rfl,hn _⟩⟩
def fZ (ls:List Bytes):gV:=if eY ls=0 then(dH aJ bJ ls).1 else zeroS
def qw (ls:List Bytes):List Int:=if eY ls=0 then(dH aJ bJ ls).2 else[]
def PPl (Qs:List Nat) (ls:List Bytes) (w:World) (e:Ending) (w':World):Prop:=
 Below w.heap.size w w'/\ ∃V es cv,e= .returned (.tuple #[.agg (bV (fZ ls) V),cv,iv (eY ls)])/\(∀W',Ext Qs w' W'->kP W' (fZ ls) V es)/\w'.ownsRow w.heap.size 48 1 cv (qw ls).length (intCells (qw ls))
theorem sZ {ls:List Bytes} (h:eY ls=0):ls.length<=40/\ ∀l∈ls,l.length<=60:=by
 unfold eY at h
 split at h
 ·omega
 ·rename_i hc
  simp only[not_or,Bool.not_eq_true] at hc
  refine⟨by omega,fun l hl=>?_⟩
  have:=List.any_eq_false.1 hc.2 l hl
  simp at this
  omega
theorem wK (lv:Value) (ls:List Bytes) (w:World) (hls:gI w lv ls) (hE:Env w) (hln: ∀l∈ls,l.length<=1000000) (Qs:List Nat) (hQs: ∀m∈Qs,m<w.heap.size):Calls Tryz.prog 6 #[lv] w (PPl Qs ls w):=by
 have Jh:Hid (∀W,Below w.heap.size w W->gI W lv ls):=Lib.hid (fun W hb=>hls.below hb (Nat.le_refl _))
 have HE:Hid (∀W,Below w.heap.size w W->Env W):=Lib.hid (fun W hb=>hE.below hb (Nat.le_refl _))
 have HLN:=Lib.hid hln
 clear hls hE hln
 go_enter Tryz.func6,Tryz.ntmps6
 go_upto_region 1 with(fail)
 refine dD fun W1 hW1=>?_
 have hb1:Below w.heap.size w W1:=by rw[hW1];exact af (Below.refl _ _) _
 have hk1:W1.heap[w.heap.size]? =some (.cells dJ 46 (0,0)):=by rw[hW1];exact ag _ _
 have hs1:W1.heap.size=w.heap.size+1:=by rw[hW1];simp
 have HB1:=Lib.hid hb1
 have U7:=Lib.hid hk1
 clear hW1 hb1 hk1
 go_wp2_with fail
 refine(Pg ls lv W1 (Jh.out _ HB1.out) HLN.out).mono ?_
 rintro e W2 ⟨rfl,hb⟩
 have HB2:=Lib.hid (aH HB1.out hb)
 have XO:=Lib.hid ((hb.block _ (by omega)).trans U7.out)
 have hs2:=hb.size
 obtain⟨q,hq⟩: ∃q,eY ls=q:=⟨_,rfl⟩
 rw[hq]
 have HQ:=Lib.hid hq
 clear hq hb
 by_cases hz:q=0
 ·subst hz
  have ZH:=Lib.hid (sZ HQ.out)
  have U4:=Lib.hid (vH lv ls W2 (Jh.out _ HB2.out) (HE.out _ HB2.out) (fun l hl=>by have:=ZH.out.2 l hl;omega) (by have:=ZH.out.1;omega) (w.heap.size::Qs) (fun m hm=>by
   rcases List.mem_cons.1 hm with rfl|hm
   ·omega
   ·have:=hQs m hm;omega))
  go_wp2_with fail
  refine U4.out.mono ?_
  rintro e W3 ⟨hb3,V,es,cv,rfl,hX,hC⟩
  obtain⟨co,cc,rfl⟩:=aK hC
  have hs3:=hb3.size
  rename_i hK
  refine hK _ _ ?_
  refine az rfl _ (by go_simp;first|rfl|exact⟨rfl,rfl⟩) ?_
  simp only[zp]
  refine az rfl _ (by go_simp;first|rfl|exact⟨rfl,rfl⟩) ?_
  simp only[zp]
  refine az rfl _ (by go_simp;first|rfl|exact⟨rfl,rfl⟩) ?_
  simp only[zp]
  have hk3:=(hb3.block _ (by omega)).trans XO.out
  have hS3:=hX W3 (Ext.refl _ _)
  refine wpList_store_row rfl _ _ _ rfl w.heap.size (bV (dH aJ bJ ls).1 V) (by as_aux_lemma=>kernel_rfl) (by as_aux_lemma=>kernel_rfl) _ dJ hk3 (by kernel_rfl) (by as_aux_lemma=>kernel_rfl) (by rw[Array.all_eq_true_iff_forall_mem];exact fun u hu=>fO hS3 u (Array.mem_toList_iff.2 hu)) ?_
  simp only[zp]
  refine jA fun W4 O3=>?_
  have XB:Ext [w.heap.size] W3 W4:=by rw[O3];exact dX
  have hb4:=iD (aH HB2.out hb3) XB (Nat.le_refl _)
  have hk4:W4.heap[w.heap.size]? =some (.cells (bV (dH aJ bJ ls).1 V) 46 (0,0)):=by rw[O3];exact setRow_heap _ _ _ _ _ _ hk3
  have hc4:=ah (Ms:=[w.heap.size]) hC XB (by simp;omega)
  have hX4: ∀W',Ext (w.heap.size::Qs) W4 W'->kP W' (dH aJ bJ ls).1 V es:=fun W' hE'=>hX W' ((XB.more (by simp)).trans hE')
  have H4:=Lib.hid (And.intro hb4 (And.intro hk4 (And.intro hc4 hX4)))
  clear O3 XB hb4 hk4 hc4 hX4 hk3 hX hC hb3 hS3 hK
  go_upto_region 5 with(fail)
  refine wp_region_lit ?_
  refine wpList_load_row rfl _ _ rfl w.heap.size rfl _ _ _ _ H4.out.2.1 Tryz.underlying46 rfl (by kernel_rfl) ?_
  simp only[zp]
  refine az rfl _ (by go_simp;first|rfl|exact⟨rfl,rfl⟩) ?_
  simp only[zp]
  refine wpList_store_row rfl _ _ _ rfl w.heap.size (bV (dH aJ bJ ls).1 V) (by as_aux_lemma=>kernel_rfl) (by as_aux_lemma=>kernel_rfl) _ _ H4.out.2.1 (by kernel_rfl) (by as_aux_lemma=>kernel_rfl) (by rw[Array.all_eq_true_iff_forall_mem];exact fun u hu=>fO (H4.out.2.2.2 W4 (Ext.refl _ _)) u (Array.mem_toList_iff.2 hu)) ?_
  simp only[zp]
  refine jA fun W5 xu=>?_
  have TS:Ext [w.heap.size] W4 W5:=by rw[xu];exact dX
  have hk5:W5.heap[w.heap.size]? =some (.cells (bV (dH aJ bJ ls).1 V) 46 (0,0)):=by rw[xu];exact setRow_heap _ _ _ _ _ _ H4.out.2.1
  have H5:=Lib.hid (And.intro (iD H4.out.1 TS (Nat.le_refl _)) (And.intro hk5 (And.intro (ah (Ms:=[w.heap.size]) H4.out.2.2.1 TS (by simp;omega)) (fun W' (hE':Ext (w.heap.size::Qs) W5 W')=>H4.out.2.2.2 W' ((TS.more (by simp)).trans hE')))))
  clear xu TS hk5
  go_wp2_with fail
  refine bodyPost_ret (v:= .tuple #[.agg (bV (dH aJ bJ ls).1 V),.slice co ls.length cc,iv 0]) ?_ rfl ?_
  ·have q1:=run_loadVar_row (P:=Tryz.prog) W5 w.heap.size 46 46 _ (0,0) _ H5.out.2.1 Tryz.underlying46 rfl (by kernel_rfl)
   simp[results,Tryz.results6,asAddr,q1]
  ·have h5:=H5.out
   have e1:fZ ls=(dH aJ bJ ls).1:=by unfold fZ;rw[if_pos HQ.out]
   have e2:qw ls=(dH aJ bJ ls).2:=by unfold qw;rw[if_pos HQ.out]
   refine⟨h5.1,V,es,.slice co ls.length cc,?_,?_,?_⟩
   ·rw[e1,HQ.out]
   ·rw[e1];exact fun W' hE'=>h5.2.2.2 W' (hE'.more (fun m hm=>List.mem_cons_of_mem _ hm))
   ·rw[e2,Gi];exact bH h5.2.2.1 (by omega)
 ·go_upto_region 3 with(fail)
  refine wp_region_lit ?_
  refine az rfl (w':=W2) (.agg dJ) (by as_aux_lemma=>kernel_rfl) ?_
  simp only[zp]
  refine az rfl _ (by go_simp;first|rfl|exact⟨rfl,rfl⟩) ?_
  simp only[zp]
  refine wpList_store_row rfl _ _ _ rfl w.heap.size dJ (by as_aux_lemma=>kernel_rfl) (by as_aux_lemma=>kernel_rfl) _ dJ XO.out (by kernel_rfl) (by as_aux_lemma=>kernel_rfl) (by as_aux_lemma=>kernel_rfl) ?_
  simp only[zp]
  refine jA fun W3 hW3=>?_
  have rE:Ext [w.heap.size] W2 W3:=by rw[hW3];exact dX
  have hk3:W3.heap[w.heap.size]? =some (.cells dJ 46 (0,0)):=by rw[hW3];exact setRow_heap _ _ _ _ _ _ XO.out
  have H3:=Lib.hid (And.intro (iD HB2.out rE (Nat.le_refl _)) hk3)
  clear hW3 rE hk3
  go_wp2_with fail
  refine bodyPost_ret (v:= .tuple #[.agg dJ,.slice none 0 0,iv q]) ?_ rfl ?_
  ·have q1:=run_loadVar_row (P:=Tryz.prog) W3 w.heap.size 46 46 _ (0,0) _ H3.out.2 Tryz.underlying46 rfl (by kernel_rfl)
   simp[results,Tryz.results6,asAddr,q1]
  ·have e1:fZ ls=zeroS:=by unfold fZ;rw[if_neg (by rw[HQ.out];exact hz)]
   have e2:qw ls=[]:=by unfold qw;rw[if_neg (by rw[HQ.out];exact hz)]
   refine⟨H3.out.1,zeroV,[],.slice none 0 0,?_,?_,?_⟩
   ·rw[e1,HQ.out,Jq]
   ·rw[e1];exact fun W' _=>Vd W'
   ·rw[e2];exact⟨rfl,.inl ⟨rfl,rfl⟩⟩
def ui (ls:List Bytes):Int:=if eY ls=0 then bC (fZ ls).led true else eY ls
def uj (ls:List Bytes):List bK:=if eY ls=0 then(if bC (fZ ls).led true=0 then jG iR (fZ ls).led (bz (fZ ls).led) else[]) else[]
def afs (ls:List Bytes) (w:World) (e:Ending) (w':World):Prop:=Below w.heap.size w w'/\ ∃u,e= .returned (.tuple #[u,iv (ui ls)])/\bn w' u (uj ls)
theorem Dl (lv:Value) (ls:List Bytes) (w:World) (hls:gI w lv ls) (hE:Env w) (hln: ∀l∈ls,l.length<=1000000):Calls Tryz.prog 7 #[lv] w (afs ls w):=by
 have Jh:=Lib.hid hls
 have HE:=Lib.hid hE
 have HLN:=Lib.hid hln
 clear hls hE hln
 obtain⟨q,hq⟩: ∃q,eY ls=q:=⟨_,rfl⟩
 have HQ:=Lib.hid hq
 go_enter Tryz.func7,Tryz.ntmps7
 go_wp2_with fail
 refine(wK lv ls w (Jh.out) (HE.out) (HLN.out) [] (by simp)).mono ?_
 rintro e W2 ⟨hb2,V,es,cv,he,hX,hC⟩
 rw[hq] at he
 subst he
 obtain⟨co,cc,rfl⟩:=aK hC
 have hs2:=hb2.size
 have hS2:=hX W2 (Ext.refl _ _)
 rename_i hK
 refine hK _ _ ?_
 refine az rfl _ (by go_simp;first|rfl|exact⟨rfl,rfl⟩) ?_
 simp only[zp]
 refine az rfl _ (by go_simp;first|rfl|exact⟨rfl,rfl⟩) ?_
 simp only[zp]
 refine az rfl _ (by go_simp;first|rfl|exact⟨rfl,rfl⟩) ?_
 simp only[zp]
 refine az rfl _ (by go_simp;first|rfl|exact⟨rfl,rfl⟩) ?_
 simp only[zp]
 obtain⟨g,hg⟩: ∃g,g=W2.heap.size:=⟨_,rfl⟩
 refine az rfl (w':=W2.alloc (.cells dJ 46 (0,0))) (.pointer (some ⟨g,0,none⟩)) (by rw[hg];go_simp;try rfl) ?_
 simp only[zp]
 have hz2:(W2.alloc (.cells dJ 46 (0,0))).heap[g]? =some (.cells dJ 46 (0,0)):=by rw[hg];exact ag _ _
 refine wpList_store_row rfl _ _ _ rfl g (bV (fZ ls) V) (by as_aux_lemma=>kernel_rfl) (by as_aux_lemma=>kernel_rfl) _ dJ hz2 (by kernel_rfl) (by as_aux_lemma=>kernel_rfl) (by rw[Array.all_eq_true_iff_forall_mem];exact fun u hu=>fO hS2 u (Array.mem_toList_iff.2 hu)) ?_
 simp only[zp]
 refine jA fun W3 hW3=>?_
 obtain⟨wI,jR⟩: ∃wI,wI=W2.alloc (.cells dJ 46 (0,0)):=⟨_,rfl⟩
 rw[<-jR] at hW3 hz2
 have rE:Ext [g] wI W3:=by rw[hW3];exact dX
 have hs3:=rE.size
 have hs2':wI.heap.size=g+1:=by rw[jR,hg];simp
 have kM:Below W2.heap.size W2 W3:=iD (by rw[jR];exact af (Below.refl _ _) _) rE (by omega)
 have hk3:W3.heap[g]? =some (.cells (bV (fZ ls) V) 46 (0,0)):=by rw[hW3];exact setRow_heap _ _ _ _ _ _ hz2
 have hb3:=aH hb2 kM
 have hg3:w.heap.size<=g:=by omega
 have hgs:g<W3.heap.size:=by omega
 have H3:=Lib.hid (And.intro hb3 (And.intro hk3 (hS2.below kM (Nat.le_refl _))))
 clear hX hC hW3 jR rE kM hb2 hS2 hz2 hK hs2 hs3 hs2' hg hb3
 clear hq
 obtain⟨vt,vn,vw,vu,vr,vh,vk,vs⟩:=V
 obtain⟨c3,f3,l3⟩:=cells_of_block hk3
 by_cases hz:q=0
 rotate_left
 ·go_wp2_with fail
  go_returns
  have hqq:eY ls≠0:=by rw[HQ.out];exact hz
  have h1:ui ls=q:=by unfold ui;rw[if_neg hqq,HQ.out]
  have h2:uj ls=[]:=by unfold uj;rw[if_neg hqq]
  refine⟨H3.out.1,.slice none 0 0,?_,?_⟩
  ·rw[h1];simp
  ·rw[h2];exact aB.nil _ _
 ·subst hz
  have HO:=Lib.hid (UI (fZ ls).led vt vn W3 H3.out.2.2.pM H3.out.2.2.MV)
  have h1:ui ls=bC (fZ ls).led true:=by unfold ui;rw[if_pos HQ.out]
  have h2:uj ls=if bC (fZ ls).led true=0 then jG iR (fZ ls).led (bz (fZ ls).led) else[]:=by unfold uj;rw[if_pos HQ.out]
  obtain⟨q2,hq2⟩: ∃q,bC (fZ ls).led true=q:=⟨_,rfl⟩
  rw[hq2] at h1 h2
  have HH:=Lib.hid (And.intro h1 h2)
  clear h1 h2
  go_wp2_with fail
  refine HO.out.mono ?_
  rintro e W4 ⟨hb4,hp⟩
  rw[hq2] at hp
  have HB4:=Lib.hid (aH H3.out.1 hb4)
  clear hb4 hq2
  rcases hp with⟨hne,rfl⟩|⟨h0,u,rfl,hu⟩
  ·have HN:=Lib.hid hne
   clear hne
   go_wp2_with fail
   go_returns
   refine⟨HB4.out,.slice none 0 0,?_,?_⟩
   ·rw[HH.out.1];simp
   ·rw[HH.out.2,if_neg HN.out];exact aB.nil _ _
  ·subst h0
   have HU:=Lib.hid hu
   obtain⟨uo,uc,rfl⟩:=hu.open
   clear hu
   go_wp2_with fail
   go_returns
   refine⟨HB4.out,.slice uo (jG iR (fZ ls).led (bz (fZ ls).led)).length uc,?_,?_⟩
   ·rw[HH.out.1];simp
   ·rw[HH.out.2];simpa using HU.out
theorem mP (l:Bytes):(dW l).size=l.length:=by simp[ByteArray.size]
theorem I4 (a b:Bytes):dW a++dW b=dW (a++b):=by
 apply ByteArray.ext
 simp
theorem Un (l:Bytes) (a b:Nat):(dW l).extract a b=dW ((l.take b).drop a):=by
 apply ByteArray.ext
 simp[List.drop_take]
theorem Ea {P:Program} {a b c:Bytes} (hc:c=a++b) (h:a.length+b.length<=1000000000) (W:World):(Op.stringOp .add (dW a) (dW b)).run P W= .ok (.string (dW c)) W:=by
 have h1:=mP a
 have h2:=mP b
 subst hc
 unfold Op.stringOp
 rw[if_neg (by rw[h1,h2];have:IntKind.i64.max=9223372036854775807:=rfl;omega),I4]
 simp
end Go.Proofs.YtabpkkbiioihaaaGreatDoor.Bk
end
section
namespace Go.Proofs.YtabpkkbiioihaaaGreatDoor
open Go.RowKit Go.RG Go.SL gZ Go.Deep
section
variable {H : Type} {enc : TypeId × Value → H} {P : Program} {W : World} {base b0 : Nat} {spare : Nat → Bool} {held : Bool} {r : Reach}
theorem Oc {α:Type} [Inhabited α] (f:α->List Value) (k:Nat) (hk0:0<k) (hf: ∀x,(f x).length=k) {t e:TypeId} (ht:P.underlying t=some (.slice e)) (hk:P.cellsOf e=k)
 (hel: ∀fuel cs x,DataW.trod enc P W base spare held fuel e cs=some x-> ∃y:α,cs=f y)
 {v:Value} (hok:Cell.ok P W r b0 t v) {fuel:Nat} {x:DataW H×List MemPlace} (h:DataW.trod enc P W base spare held fuel t [v]=some x):
 ∃l:List α,aB k W v l.length (l.flatMap f):=by
 rcases open_slice ht h with⟨hc,_⟩|⟨a,len,cap,m,n,D,Pl,hc,hb,hl,hm,hmm,_,hx⟩
 ·cases hc
  exact⟨[],aB.nil k W⟩
 ·cases hc
  have hsp:a.spot=none:=by
   simp only[Cell.ok,ht,World.has] at hok
   exact hok.2.2.2.1
  have hlm:len<=m:=by rw[hmm];split <;>omega
  have each: ∀i,i<m-> ∃y:α, ∀j u,(f y)[j]? =some u->W.cell? ⟨a.block,a.off+(i*k+j),none⟩=some u:=by
   intro i hi
   obtain⟨cs',h1,h2⟩:=hx i hi
   rw[hk] at h1
   obtain⟨_,hlen,hcell⟩:=World.cells?_some h1
   obtain⟨y,rfl⟩:=hel _ _ _ h2
   refine⟨y,fun j u hj=>?_⟩
   have hjk:j<k:=by rw[<-hf y];exact(List.getElem?_eq_some_iff.1 hj).1
   have h3:=hcell j hjk
   rw[add_add] at h3
   obtain⟨b,off,sp⟩:=a
   simp only at hsp
   subst hsp
   rw[Addr.add_lit] at h3
   rw[h3,hj]
  obtain⟨Y,hY⟩:=choose_lt each
  have hlen:((List.range len).map Y).length=len:=by simp
  refine⟨(List.range len).map Y,?_,some a,cap,by rw[hlen],by rw[hlen];exact hl,hm,(fun h=>by cases h),fun a' ha=>?_⟩
  ·have: ∀l:List α,(l.flatMap f).length=l.length*k:=by
    intro l
    induction l with
    |nil=>simp
    |cons z l ih=>rw[List.flatMap_cons,List.length_append,hf,ih,List.length_cons,Nat.add_mul];omega
   exact this _
  ·cases ha
   refine⟨hsp,fun j u hj=>?_⟩
   have hjl:j<(((List.range len).map Y).flatMap f).length:=(List.getElem?_eq_some_iff.1 hj).1
   have abh:(((List.range len).map Y).flatMap f).length=len*k:=by
    have: ∀l:List α,(l.flatMap f).length=l.length*k:=by
     intro l
     induction l with
     |nil=>simp
     |cons z l ih=>rw[List.flatMap_cons,List.length_append,hf,ih,List.length_cons,Nat.add_mul];omega
    rw[this,hlen]
   rw[abh] at hjl
   have hi:j/k<len:=(Nat.div_lt_iff_lt_mul hk0).2 hjl
   have hr:j%k<k:=Nat.mod_lt _ hk0
   have e:j/k*k+j%k=j:=by rw[Nat.mul_comm];exact Nat.div_add_mod j k
   have:=flat_get f k hf ((List.range len).map Y) (j/k) (j%k) (by rw[hlen];exact hi) hr
   rw[e,hj] at this
   simp only[List.getElem_map,List.getElem_range] at this
   have h4:=hY (j/k) (by omega) (j%k) u this.symm
   rw[e] at h4
   exact h4
end
section
variable {H : Type} {enc : TypeId × Value → H} {W : World} {base b0 : Nat} {spare : Nat → Bool} {held : Bool} {r : Reach}
end
theorem AZ {H:Type} {enc:TypeId×Value->H} {P:Program} (hl:laidOutB P=true) {ts:List TypeId} (hr:(ts.all fun t=>P.readableRec t&&decide (t<P.types.size))=true) {W W':World} {vs:List Value} {ds:List (DataW H)} {ps:List MemPlace}
 (h:DataW.TrodAll enc P W 0 (fun _=>true) true ts vs ds ps) (hb:Below W.heap.size W W') (hlt: ∀x∈ps,x.block<W.heap.size):
 DataW.TrodAll enc P W' 0 (fun b=>decide (b<W.heap.size)) true ts vs ds ps:=by
 induction ts generalizing vs ds ps with
 |nil=>
  cases vs <;>cases ds <;>simp_all [DataW.TrodAll]
 |cons t ts ih=>
  cases vs with
  |nil=>cases ds <;>simp_all [DataW.TrodAll]
  |cons v vs=>
   cases ds with
   |nil=>simp_all [DataW.TrodAll]
   |cons d ds=>
    obtain⟨p,q,h1,h2,rfl⟩:=h
    simp only[List.all_cons,Bool.and_eq_true,decide_eq_true_eq] at hr
    exact⟨p,q,Below.trod hl hr.1.1 hr.1.2 h1 hb (fun x hx=>hlt x (by simp[hx])),ih (by simpa using hr.2) h2 (fun x hx=>hlt x (by simp[hx])),rfl⟩
end Go.Proofs.YtabpkkbiioihaaaGreatDoor
end

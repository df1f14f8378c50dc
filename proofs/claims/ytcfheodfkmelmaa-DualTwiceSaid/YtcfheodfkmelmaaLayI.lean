/- Arguments of rows, and of numbers: laid down for the machine. -/
import Derived.Test.YtcfheodfkmelmaaMat
import Derived.Test.YtcfheodfkmelmaaSh29
import Derived.ProofKit
import Derived.Deep.Matrix
import Derived.ChangeSlices
set_option linter.unusedVariables false
set_option linter.unusedSimpArgs false
namespace Go.Sh.Of
open Go Go.Sh
theorem wf_i64' {n : Int} (h : (Lit.int .i64 n).wf = true) : Go.Sh.I64 n := by
 simp only [Lit.wf, decide_eq_true_eq, Bool.and_eq_true] at h
 unfold Go.Sh.I64
 simp [IntKind.min, IntKind.max, IntKind.signed, IntKind.bits] at h
 omega
section
variable {HH : Type} {enc : TypeId × Value -> HH} {P : Program} {w : World} {held : Bool}
theorem lay_rows {t e q : TypeId} {fuel : Nat} {a : Option Addr} {len cap : Nat} {x : DataW HH × List MemPlace} (ht : P.underlying t = some (.slice e)) (he : P.underlying e = some (.slice q)) (hq : P.underlying q = some (.int .i64))
  (ce : P.cellsOf e = 1) (cq : P.cellsOf q = 1) (h : DataW.trod enc P w 0 (fun _ => true) held fuel t [.slice a len cap] = some x) {H : Heap} {ρ : Place} (hs : Start w H ρ) :
  ∃ (H' : Heap) (ρ' : Place) (sv : SV) (T : List (List Int)), Start w H' ρ' /\ More H ρ H' ρ' /\ Go.Sh.okSV ρ' H'.size sv /\ conc ρ' sv = .slice a len cap /\ IsInts2 H' sv T /\ ∀ r ∈ T, ∀ z ∈ r, Go.Sh.I64 z := by
 rcases Go.Deep.open_int_rows ht he hq ce cq h with ⟨hcs, _⟩ | ⟨x, l, c, A, L, C, Z, hcs, _, hl, hm, _, hrow⟩
 ·simp at hcs
  obtain ⟨rfl, rfl, rfl⟩ := hcs
  exact ⟨H, ρ, .slice nilSl, [], hs, More.refl _ _, by simp [Go.Sh.okSV, nilSl, capC], by simp [conc, nilSl, capC], ⟨[], Arr.nil _, rfl, fun i w cs hw => by simp at hw⟩, fun r hr => by cases hr⟩
 ·simp at hcs
  obtain ⟨rfl, rfl, rfl⟩ := hcs
  obtain ⟨H1, ρ1, sv, ws, s1, m1, o1, c1, a1, l1, g1⟩ := hs.grid (k := .i64) (x := x) (A := A) (L := L) (C := C) (Z := Z) hl (fun r hr => by
   obtain ⟨g1, g2, g3, g4, g5, g6, g7⟩ := hrow r hr
   cases hA : A r with
   | none =>
    have hc := g6 hA
    exact .inl ⟨rfl, by omega, hc, List.eq_nil_of_length_eq_zero (by omega)⟩
   | some a' => exact .inr ⟨a', rfl, g2, g4, fun i hi => (g7 a' hA).2 i (by omega)⟩) (fun r hr => (hrow r hr).1)
  refine ⟨H1, ρ1, sv, (List.range len).map fun r => (Z r).take (L r), s1, m1, o1, c1, ⟨ws, a1, by simp [l1], fun i w cs hw hc => ?_⟩, fun r hr z hz => ?_⟩
  ·have hi : i < len := by have := (List.getElem?_eq_some_iff.1 hw).1; omega
   simp [hi] at hc
   subst hc
   have g := g1 i w hw
   simp only [intsL, List.map_take] at g
   exact g
  ·obtain ⟨i, hi, rfl⟩ := List.mem_map.1 hr
   obtain ⟨_, _, _, _, g5, _⟩ := hrow i (by have := List.mem_range.1 hi; omega)
   exact wf_i64' (g5 z (List.mem_of_mem_take hz))
end
end Go.Sh.Of

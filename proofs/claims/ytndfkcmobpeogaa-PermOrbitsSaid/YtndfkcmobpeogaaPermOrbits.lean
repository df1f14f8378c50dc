/- PermOrbits returns true at every call, whatever the number and the lists, and turns nothing that was there before it: no condition. -/
import Derived.Test.YtndfkcmobpeogaaRows
import Derived.Test.YtndfkcmobpeogaaOrbG
import Derived.ProofKit
import Derived.OpenShut
import Derived.Carry
import Derived.Deep.Matrix
namespace Go.Proofs.Ytndfkcmobpeogaa.permOrbits
open Go.ChangeShapes Go.WideShapes Go.ChangeAt Go.RowKit Go.Sh
set_option linter.unusedVariables false

theorem own : ownKnob Try.prog.godebug = none := by kernel_rfl
theorem laidOut : laidOutB Try.prog = true := by kernel_rfl

theorem walk (W : World) {v w : Value} {H : Heap} {ρ : Sh.Place} {x : SV} {n : Int} {gens : List (List Int)} (hs : Sh.Start W H ρ) (hv : VRL ρ H.size [.int .i64 n, x] [w, v]) (hx : Go.Sh.Of.IsLists H x gens) :
    Calls Try.prog 3 #[w, v] W fun e W' => e = .returned (.bool true) ∧ Below W.heap.size W W' := by
  obtain ⟨H', h⟩ := Go.Sh.Of.porb_ok 4000000 (by omega) 20 H n hx
  exact calls_law Go.Sh.Of.wkOk (l := Go.Sh.Of.ents) Go.Sh.Of.entsOk Go.Sh.Of.tab_eq Go.Sh.Of.comp Go.Sh.Of.within Go.Sh.Of.mixed h hs hv

set_option maxRecDepth 100000 in
theorem lifted (os : Os) (started : os.Started) (H : Type) (enc : TypeId × Value → H) :
    ReturnsInHanded {} Try.checked os 3 .any (Rows.permOrbitsSpec.pre6 enc Try.prog Try.f3 Rows.permOrbitsRow.domain false) (Rows.permOrbitsSpec.post enc Try.prog Try.f3 false true false false) := by
  refine returnsInHanded_of_change (C := Try.checked) own started (by kernel_rfl) Try.func3
    (ChangeSpec.witness6 (enc := enc) (C := Try.checked) false ⟨#[], #[.int .i64 0, .slice none 0 0], []⟩ 8 (by kernel_rfl) (by kernel_rfl) (by kernel_rfl) (by kernel_rfl)) ?_
  intro W base args ds gs before hval0 hW hcnd _
  have hval : ∀ (j : Nat) t v, Try.f3.params[j]? = some t → args[j]? = some v → Value.okWide Try.prog W .any base t v := hval0
  have hW' := hW
  obtain ⟨p, q, hA0, hV, rfl, hfz, hnd⟩ := hW
  have hA : DataW.TrodAll enc Try.prog W 0 (fun _ => true) true Try.f3.params.toList args.toList ds p := hA0
  rw [Try.params3] at hA hval
  obtain ⟨v0, vs0, d0, ds0, p0, q0, hargs, rfl, rfl, h0, r0⟩ := trodAll_cons hA
  obtain ⟨v1, vs1, d1, ds1, p1, q1, rfl, rfl, rfl, h1, r1⟩ := trodAll_cons r0
  obtain ⟨rfl, rfl, rfl⟩ := trodAll_nil r1
  obtain rfl : args = #[v0, v1] := by cases args; simp_all
  obtain ⟨rfl, rfl⟩ := trodVars_none hV
  have hv0 := hval 0 3 v0 rfl rfl
  have hv1 := hval 1 22 v1 rfl rfl
  obtain ⟨a1, len1, cap1, rfl⟩ := okWide_slice Try.underlying22 hv1
  have k0 := h0
  have k1 := h1
  obtain ⟨n, rfl, _, _, _⟩ := open_int Try.underlying3 hv0 h0
  have lt0 : ∀ x ∈ p0, x.block < W.heap.size := by obtain ⟨m, hm⟩ := k0; exact DataW.trod_lt m _ _ _ hm
  have lt1 : ∀ x ∈ p1, x.block < W.heap.size := by obtain ⟨m, hm⟩ := k1; exact DataW.trod_lt m _ _ _ hm
  obtain ⟨H1, ρ1, s0, gens, st1, ok0, e0, ir⟩ : ∃ (H1 : Heap) (ρ1 : Sh.Place) (s0 : SV) (gens : List (List Int)), Sh.Start W H1 ρ1 ∧ okSV ρ1 H1.size s0 ∧ conc ρ1 s0 = .slice a1 len1 cap1 ∧ Go.Sh.Of.IsLists H1 s0 gens := by
    obtain ⟨fuel, hf⟩ := h1
    rcases Go.Deep.open_int_rows Try.underlying22 Try.underlying30 Try.underlying3 (by kernel_rfl) (by kernel_rfl) hf with ⟨hcs, _⟩ | ⟨x, l, c, A, L, C, Z, hcs, _, hl, hm, _, hrow⟩
    · simp [Value.cells] at hcs
      obtain ⟨rfl, rfl, rfl⟩ := hcs
      exact ⟨noRows, fun _ => ⟨0, 0, 0, 0⟩, .slice nilSl, [], Sh.Start.none W _, by simp [Go.Sh.okSV, nilSl, capC], by simp [conc, nilSl, capC], ⟨[], Arr.nil _, rfl, fun i w cs hw => by simp at hw⟩⟩
    · simp [Value.cells] at hcs
      obtain ⟨rfl, rfl, rfl⟩ := hcs
      obtain ⟨H1, ρ1, sv, ws, s1, _, o1, c1, a1, l1, g1⟩ := (Sh.Start.none W (fun _ => ⟨0, 0, 0, 0⟩)).grid (k := .i64) (x := x) (A := A) (L := L) (C := C) (Z := Z) hl (fun r hr => by
        obtain ⟨g1, g2, g3, g4, g5, g6, g7⟩ := hrow r hr
        cases hA : A r with
        | none =>
          have hc := g6 hA
          exact .inl ⟨rfl, by omega, hc, List.eq_nil_of_length_eq_zero (by omega)⟩
        | some a' => exact .inr ⟨a', rfl, g2, g4, fun i hi => (g7 a' hA).2 i (by omega)⟩) (fun r hr => (hrow r hr).1)
      refine ⟨H1, ρ1, sv, (List.range len1).map fun r => (Z r).take (L r), s1, o1, c1, ws, a1, by simp [l1], fun i w l hw hc => ?_⟩
      have hi : i < len1 := by have := (List.getElem?_eq_some_iff.1 hw).1; omega
      simp [hi] at hc
      subst hc
      exact g1 i w hw
  clear hA0 hval0
  refine (walk (n := n) W st1 (vrl_cons (by simp [Go.Sh.okSV]) (by simp [conc]) (vrl_cons ok0 e0 vrl_nil)) ir).mono fun e W' ⟨he, bel⟩ => ?_
  subst he
  exact ⟨_, rfl, _, _, _, [], _, [], hW', trodAll_cons_mk (shut_bool Try.underlying4 _) trodAll_mk0, trodAll_cons_mk (bel.trod laidOut (by kernel_rfl) (of_decide_eq_true (by kernel_rfl)) k0 lt0) (trodAll_cons_mk (bel.trod laidOut (by kernel_rfl) (of_decide_eq_true (by kernel_rfl)) k1 lt1) trodAll_mk0), rfl, bel.frame _, fun h => by cases h⟩

theorem proved : Rows.PermOrbitsSaid :=
  OpenClaim.holds_of_wide 3 Try.f3 rfl rfl rfl rfl rfl rfl rfl ⟨rfl, rfl, rfl, rfl, rfl⟩ rfl rfl rfl rfl rfl (by kernel_rfl) Try.func3 (by kernel_rfl)
    (of_decide_eq_true (by kernel_rfl)) (by unfold Func.isWrapper; first | (rw [if_pos (by decide +kernel)]; kernel_rfl) | (rw [if_neg (by decide +kernel)]; exact ⟨rfl, rfl⟩))
    (fun os started H enc _ => lifted os started H enc)
#print axioms proved
end Go.Proofs.Ytndfkcmobpeogaa.permOrbits

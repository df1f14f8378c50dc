/- GramSums returns true at every call, whatever the arguments, and turns nothing that was there before it: no condition. -/
import Derived.Test.YtkgbokkeemjkkaaRows
import Derived.Test.YtkgbokkeemjkkaaSumsB
import Derived.Test.YtkgbokkeemjkkaaLayI
import Derived.ProofKit
import Derived.OpenShut
import Derived.Carry
import Derived.Deep.Matrix
namespace Go.Proofs.Ytkgbokkeemjkkaa.gramSums
open Go.ChangeShapes Go.WideShapes Go.ChangeAt Go.RowKit Go.Sh
set_option linter.unusedVariables false

theorem own : ownKnob Try.prog.godebug = none := by kernel_rfl
theorem laidOut : laidOutB Try.prog = true := by kernel_rfl

theorem walk (W : World) {v0 v1 v2 : Value} {H : Heap} {ρ : Sh.Place} {x0 : SV} {A0 : List (List Int)} {x1 : SV} {A1 : List (List Int)} {n2 : Int} (hs : Sh.Start W H ρ) (hv : VRL ρ H.size [x0, x1, .int .i64 n2] [v0, v1, v2]) (h0 : Go.Sh.Of.IsInts2 H x0 A0) (g0 : ∀ r ∈ A0, ∀ z ∈ r, Go.Sh.I64 z) (h1 : Go.Sh.Of.IsInts2 H x1 A1) (g1 : ∀ r ∈ A1, ∀ z ∈ r, Go.Sh.I64 z) (g2 : Go.Sh.I64 n2) :
    Calls Try.prog 8 #[v0, v1, v2] W fun e W' => e = .returned (.bool true) ∧ Below W.heap.size W W' := by
  obtain ⟨H', h⟩ := Go.Sh.Of.sums_ok 4000000 (by omega) 20 H h0 g0 h1 g1 g2
  exact calls_law Go.Sh.Of.wkOk (l := Go.Sh.Of.ents) Go.Sh.Of.entsOk Go.Sh.Of.tab_eq Go.Sh.Of.comp Go.Sh.Of.within Go.Sh.Of.mixed h hs hv

set_option maxRecDepth 100000 in
theorem lifted (os : Os) (started : os.Started) (H : Type) (enc : TypeId × Value → H) :
    ReturnsInHanded {} Try.checked os 8 .any (Rows.gramSumsSpec.pre6 enc Try.prog Try.f8 Rows.gramSumsRow.domain false) (Rows.gramSumsSpec.post enc Try.prog Try.f8 false true false false) := by
  refine returnsInHanded_of_change (C := Try.checked) own started (by kernel_rfl) Try.func8
    (ChangeSpec.witness6 (enc := enc) (C := Try.checked) false ⟨#[], #[.slice none 0 0, .slice none 0 0, .int .i64 0], []⟩ 8 (by kernel_rfl) (by kernel_rfl) (by kernel_rfl) (by kernel_rfl)) ?_
  intro W base args ds gs before hval0 hW hcnd _
  have hval : ∀ (j : Nat) t v, Try.f8.params[j]? = some t → args[j]? = some v → Value.okWide Try.prog W .any base t v := hval0
  have hW' := hW
  obtain ⟨p, q, hA0, hV, rfl, hfz, hnd⟩ := hW
  have hA : DataW.TrodAll enc Try.prog W 0 (fun _ => true) true Try.f8.params.toList args.toList ds p := hA0
  rw [Try.params8] at hA hval
  obtain ⟨v0, vs0, d0, ds0, p0, q0, hargs, rfl, rfl, h0, r0⟩ := trodAll_cons hA
  obtain ⟨v1, vs1, d1, ds1, p1, q1, rfl, rfl, rfl, h1, r1⟩ := trodAll_cons r0
  obtain ⟨v2, vs2, d2, ds2, p2, q2, rfl, rfl, rfl, h2, r2⟩ := trodAll_cons r1
  obtain ⟨rfl, rfl, rfl⟩ := trodAll_nil r2
  obtain rfl : args = #[v0, v1, v2] := by cases args; simp_all
  obtain ⟨rfl, rfl⟩ := trodVars_none hV
  have hv0 := hval 0 22 v0 rfl rfl
  have hv1 := hval 1 22 v1 rfl rfl
  have hv2 := hval 2 2 v2 rfl rfl
  obtain ⟨a0, len0, cap0, rfl⟩ := okWide_slice Try.underlying22 hv0
  obtain ⟨a1, len1, cap1, rfl⟩ := okWide_slice Try.underlying22 hv1
  have k0 := h0
  have k1 := h1
  have k2 := h2
  obtain ⟨n2, rfl, _, _, wf2⟩ := open_int Try.underlying2 hv2 h2
  have lt0 : ∀ x ∈ p0, x.block < W.heap.size := by obtain ⟨m, hm⟩ := k0; exact DataW.trod_lt m _ _ _ hm
  have lt1 : ∀ x ∈ p1, x.block < W.heap.size := by obtain ⟨m, hm⟩ := k1; exact DataW.trod_lt m _ _ _ hm
  have lt2 : ∀ x ∈ p2, x.block < W.heap.size := by obtain ⟨m, hm⟩ := k2; exact DataW.trod_lt m _ _ _ hm
  obtain ⟨H1, ρ1, s0, T0, st1, m1, ok0, e0, t0, z0⟩ : ∃ (H' : Heap) (ρ' : Sh.Place) (sv : SV) (T : List (List Int)), Sh.Start W H' ρ' ∧ More noRows (fun _ => ⟨0, 0, 0, 0⟩) H' ρ' ∧ okSV ρ' H'.size sv ∧ conc ρ' sv = .slice a0 len0 cap0 ∧ Go.Sh.Of.IsInts2 H' sv T ∧ ∀ r ∈ T, ∀ z ∈ r, Go.Sh.I64 z := by
    obtain ⟨fuel, hf⟩ := h0
    exact Go.Sh.Of.lay_rows Try.underlying22 Try.underlying27 Try.underlying2 (by kernel_rfl) (by kernel_rfl) hf (Sh.Start.none W (fun _ => ⟨0, 0, 0, 0⟩))
  obtain ⟨H2, ρ2, s1, T1, st2, m2, ok1, e1, t1, z1⟩ : ∃ (H' : Heap) (ρ' : Sh.Place) (sv : SV) (T : List (List Int)), Sh.Start W H' ρ' ∧ More H1 ρ1 H' ρ' ∧ okSV ρ' H'.size sv ∧ conc ρ' sv = .slice a1 len1 cap1 ∧ Go.Sh.Of.IsInts2 H' sv T ∧ ∀ r ∈ T, ∀ z ∈ r, Go.Sh.I64 z := by
    obtain ⟨fuel, hf⟩ := h1
    exact Go.Sh.Of.lay_rows Try.underlying22 Try.underlying27 Try.underlying2 (by kernel_rfl) (by kernel_rfl) hf st1
  obtain ⟨ok0', c0⟩ := (m2).okSV ok0
  clear hA0 hval0
  refine (walk W st2 (vrl_cons ok0' (c0.trans e0) (vrl_cons ok1 e1 (vrl_cons (by simp [Go.Sh.okSV]) (by simp [conc]) vrl_nil))) (Go.Sh.Of.IsRowsC.fr t0 (m2).fr) z0 t1 z1 (Go.Sh.Of.wf_i64' wf2)).mono fun e W' ⟨he, bel⟩ => ?_
  subst he
  exact ⟨_, rfl, _, _, _, [], _, [], hW', trodAll_cons_mk (shut_bool Try.underlying4 _) trodAll_mk0, (trodAll_cons_mk (bel.trod laidOut (by kernel_rfl) (of_decide_eq_true (by kernel_rfl)) k0 lt0) (trodAll_cons_mk (bel.trod laidOut (by kernel_rfl) (of_decide_eq_true (by kernel_rfl)) k1 lt1) (trodAll_cons_mk (bel.trod laidOut (by kernel_rfl) (of_decide_eq_true (by kernel_rfl)) k2 lt2) trodAll_mk0))), rfl, bel.frame _, fun h => by cases h⟩

theorem proved : Rows.GramSumsSaid :=
  OpenClaim.holds_of_wide 8 Try.f8 rfl rfl rfl rfl rfl rfl rfl ⟨rfl, rfl, rfl, rfl, rfl⟩ rfl rfl rfl rfl rfl (by kernel_rfl) Try.func8 (by kernel_rfl)
    (of_decide_eq_true (by kernel_rfl)) (by unfold Func.isWrapper; first | (rw [if_pos (by decide +kernel)]; kernel_rfl) | (rw [if_neg (by decide +kernel)]; exact ⟨rfl, rfl⟩))
    (fun os started H enc _ => lifted os started H enc)
#print axioms proved
end Go.Proofs.Ytkgbokkeemjkkaa.gramSums


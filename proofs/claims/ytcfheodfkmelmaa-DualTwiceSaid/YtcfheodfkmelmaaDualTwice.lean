/- DualTwice returns true at every call, whatever the arguments, and turns nothing that was there before it: no condition. -/
import Derived.Test.YtcfheodfkmelmaaRows
import Derived.Test.YtcfheodfkmelmaaDualT
import Derived.Test.YtcfheodfkmelmaaLayI
import Derived.ProofKit
import Derived.OpenShut
import Derived.Carry
import Derived.Deep.Matrix
namespace Go.Proofs.Ytcfheodfkmelmaa.dualTwice
open Go.ChangeShapes Go.WideShapes Go.ChangeAt Go.RowKit Go.Sh
set_option linter.unusedVariables false
theorem own : ownKnob Try.prog.godebug = none := by kernel_rfl
theorem laidOut : laidOutB Try.prog = true := by kernel_rfl
theorem walk (W : World) {v0 : Value} {H : Heap} {ρ : Sh.Place} {x0 : SV} {A0 : List (List Int)} (hs : Sh.Start W H ρ) (hv : VRL ρ H.size [x0] [v0]) (h0 : Go.Sh.Of.IsInts2 H x0 A0) (g0 : ∀ r ∈ A0, ∀ z ∈ r, Go.Sh.I64 z) :
  Calls Try.prog 3 #[v0] W fun e W' => e = .returned (.bool true) /\ Below W.heap.size W W' := by
 obtain ⟨H', h⟩ := Go.Sh.Of.dtwice_ok (4000000) (by omega) 20 H h0 g0
 exact calls_law Go.Sh.Of.wkOk (l := Go.Sh.Of.ents) Go.Sh.Of.entsOk Go.Sh.Of.tab_eq Go.Sh.Of.comp Go.Sh.Of.within Go.Sh.Of.mixed h hs hv
set_option maxRecDepth 100000 in
theorem lifted (os : Os) (started : os.Started) (H : Type) (enc : TypeId × Value -> H) :
  ReturnsInHanded {} Try.checked os 3 .any (Rows.dualTwiceSpec.pre6 enc Try.prog Try.f3 Rows.dualTwiceRow.domain false) (Rows.dualTwiceSpec.post enc Try.prog Try.f3 false true false false) := by
 refine returnsInHanded_of_change (C := Try.checked) own started (by kernel_rfl) Try.func3
  (ChangeSpec.witness6 (enc := enc) (C := Try.checked) false ⟨#[], #[.slice none 0 0], []⟩ 8 (by kernel_rfl) (by kernel_rfl) (by kernel_rfl) (by kernel_rfl)) ?_
 intro W base args ds gs before hval0 hW hcnd _
 have hval : ∀ (j : Nat) t v, Try.f3.params[j]? = some t -> args[j]? = some v -> Value.okWide Try.prog W .any base t v := hval0
 have hW' := hW
 obtain ⟨p, q, hA0, hV, rfl, hfz, hnd⟩ := hW
 have hA : DataW.TrodAll enc Try.prog W 0 (fun _ => true) true Try.f3.params.toList args.toList ds p := hA0
 rw [Try.params3] at hA hval
 obtain ⟨v0, vs0, d0, ds0, p0, q0, hargs, rfl, rfl, h0, r0⟩ := trodAll_cons hA
 obtain ⟨rfl, rfl, rfl⟩ := trodAll_nil r0
 obtain rfl : args = #[v0] := by cases args; simp_all
 obtain ⟨rfl, rfl⟩ := trodVars_none hV
 have hv0 := hval 0 22 v0 rfl rfl
 obtain ⟨a0, len0, cap0, rfl⟩ := okWide_slice Try.underlying22 hv0
 have k0 := h0
 have lt0 : ∀ x ∈ p0, x.block < W.heap.size := by obtain ⟨m, hm⟩ := k0; exact DataW.trod_lt m _ _ _ hm
 obtain ⟨H1, ρ1, s0, T0, st1, m1, ok0, e0, t0, z0⟩ : ∃ (H' : Heap) (ρ' : Sh.Place) (sv : SV) (T : List (List Int)), Sh.Start W H' ρ' /\ More noRows (fun _ => ⟨0, 0, 0, 0⟩) H' ρ' /\ okSV ρ' H'.size sv /\ conc ρ' sv = .slice a0 len0 cap0 /\ Go.Sh.Of.IsInts2 H' sv T /\ ∀ r ∈ T, ∀ z ∈ r, Go.Sh.I64 z := by
  obtain ⟨fuel, hf⟩ := h0
  exact Go.Sh.Of.lay_rows Try.underlying22 Try.underlying32 Try.underlying2 (by kernel_rfl) (by kernel_rfl) hf (Sh.Start.none W (fun _ => ⟨0, 0, 0, 0⟩))
 clear hA0 hval0
 refine (walk W st1 (vrl_cons ok0 e0 vrl_nil) t0 z0).mono fun e W' ⟨he, bel⟩ => ?_
 subst he
 exact ⟨_, rfl, _, _, _, [], _, [], hW', trodAll_cons_mk (shut_bool Try.underlying4 _) trodAll_mk0, (trodAll_cons_mk (bel.trod laidOut (by kernel_rfl) (of_decide_eq_true (by kernel_rfl)) k0 lt0) trodAll_mk0), rfl, bel.frame _, fun h => by cases h⟩
theorem proved : Rows.DualTwiceSaid :=
 OpenClaim.holds_of_wide 3 Try.f3 rfl rfl rfl rfl rfl rfl rfl ⟨rfl, rfl, rfl, rfl, rfl⟩ rfl rfl rfl rfl rfl (by kernel_rfl) Try.func3 (by kernel_rfl)
  (of_decide_eq_true (by kernel_rfl)) (by unfold Func.isWrapper; first | (rw [if_pos (by decide +kernel)]; kernel_rfl) | (rw [if_neg (by decide +kernel)]; exact ⟨rfl, rfl⟩))
  (fun os started H enc _ => lifted os started H enc)
#print axioms proved
end Go.Proofs.Ytcfheodfkmelmaa.dualTwice

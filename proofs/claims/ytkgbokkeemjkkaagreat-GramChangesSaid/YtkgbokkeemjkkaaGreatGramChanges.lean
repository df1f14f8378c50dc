/- GramChanges returns true at every call, whatever the arguments, and turns nothing that was there before it: no condition. -/
import Derived.Test.YtkgbokkeemjkkaaGreatRows
import Derived.Test.YtkgbokkeemjkkaaGreatChanges
import Derived.Test.YtkgbokkeemjkkaaGreatLayI
import Derived.Test.YtkgbokkeemjkkaaGreatStrs
import Derived.ProofKit
import Derived.OpenShut
import Derived.Carry
import Derived.Deep.Matrix
namespace Go.Proofs.YtkgbokkeemjkkaaGreat.gramChanges
open Go.ChangeShapes Go.WideShapes Go.ChangeAt Go.RowKit Go.Sh
set_option linter.unusedVariables false
theorem own : ownKnob Tryz.prog.godebug = none := by kernel_rfl
theorem laidOut : laidOutB Tryz.prog = true := by kernel_rfl
theorem loops (T : List (List (List UInt8))) (h : Go.Sh.Of.ShortT T) : ∃ K, Go.Sh.Of.TextsOk K T := by
 have key : ∀ (l : List (List UInt8)), ∃ K, ∀ s ∈ l, s.length < K := by
  intro l
  induction l with
  | nil => exact ⟨0, fun s hs => by cases hs⟩
  | cons s l ih =>
   obtain ⟨K, hK⟩ := ih
   refine ⟨K + s.length + 1, fun t ht => ?_⟩
   rcases List.mem_cons.1 ht with rfl | ht
   ·omega
   ·have := hK t ht; omega
 obtain ⟨K, hK⟩ := key T.flatten
 exact ⟨K, fun r hr s hs => ⟨Nat.lt_of_le_of_lt (h r hr s hs) (by decide), hK s (List.mem_flatten.2 ⟨r, hr, hs⟩)⟩⟩
theorem textsOk_mono {K K' : Nat} {T : List (List (List UInt8))} (h : Go.Sh.Of.TextsOk K T) (hk : K <= K') : Go.Sh.Of.TextsOk K' T := fun r hr s hs => ⟨(h r hr s hs).1, Nat.lt_of_lt_of_le (h r hr s hs).2 hk⟩
theorem walk (W : World) {v0 v1 : Value} {H : Heap} {ρ : Sh.Place} {x0 : SV} {A0 : List (List Int)} {x1 : SV} {A1 : List (List (List UInt8))} (hs : Sh.Start W H ρ) (hv : VRL ρ H.size [x0, x1] [v0, v1]) (h0 : Go.Sh.Of.IsInts2 H x0 A0) (g0 : ∀ r ∈ A0, ∀ z ∈ r, Go.Sh.I64 z) (h1 : Go.Sh.Of.IsTexts H x1 A1) (g1 : Go.Sh.Of.ShortT A1) :
  Calls Tryz.prog 3 #[v0, v1] W fun e W' => e = .returned (.bool true) /\ Below W.heap.size W W' := by
 obtain ⟨b1, hk1⟩ := loops A1 g1
 obtain ⟨H', h⟩ := Go.Sh.Of.changes_ok (4000000 + b1) (by omega) 20 H h0 g0 h1 (textsOk_mono hk1 (by omega))
 exact calls_law Go.Sh.Of.wkOk (l := Go.Sh.Of.ents) Go.Sh.Of.entsOk Go.Sh.Of.tab_eq Go.Sh.Of.comp Go.Sh.Of.within Go.Sh.Of.mixed h hs hv
set_option maxRecDepth 100000 in
theorem lifted (os : Os) (started : os.Started) (H : Type) (enc : TypeId × Value -> H) :
  ReturnsInHanded {} Tryz.checked os 3 .any (Rows.gramChangesSpec.pre6 enc Tryz.prog Tryz.f3 Rows.gramChangesRow.domain false) (Rows.gramChangesSpec.post enc Tryz.prog Tryz.f3 false true false false) := by
 refine returnsInHanded_of_change (C := Tryz.checked) own started (by kernel_rfl) Tryz.func3
  (ChangeSpec.witness6 (enc := enc) (C := Tryz.checked) false ⟨#[], #[.slice none 0 0, .slice none 0 0], []⟩ 8 (by kernel_rfl) (by kernel_rfl) (by kernel_rfl) (by kernel_rfl)) ?_
 intro W base args ds gs before hval0 hW hcnd _
 have hval : ∀ (j : Nat) t v, Tryz.f3.params[j]? = some t -> args[j]? = some v -> Value.okWide Tryz.prog W .any base t v := hval0
 have hW' := hW
 obtain ⟨p, q, hA0, hV, rfl, hfz, hnd⟩ := hW
 have hA : DataW.TrodAll enc Tryz.prog W 0 (fun _ => true) true Tryz.f3.params.toList args.toList ds p := hA0
 rw [Tryz.params3] at hA hval
 obtain ⟨v0, vs0, d0, ds0, p0, q0, hargs, rfl, rfl, h0, r0⟩ := trodAll_cons hA
 obtain ⟨v1, vs1, d1, ds1, p1, q1, rfl, rfl, rfl, h1, r1⟩ := trodAll_cons r0
 obtain ⟨rfl, rfl, rfl⟩ := trodAll_nil r1
 obtain rfl : args = #[v0, v1] := by cases args; simp_all
 obtain ⟨rfl, rfl⟩ := trodVars_none hV
 have hv0 := hval 0 22 v0 rfl rfl
 have hv1 := hval 1 23 v1 rfl rfl
 obtain ⟨a0, len0, cap0, rfl⟩ := okWide_slice Tryz.underlying22 hv0
 obtain ⟨a1, len1, cap1, rfl⟩ := okWide_slice Tryz.underlying23 hv1
 have k0 := h0
 have k1 := h1
 have lt0 : ∀ x ∈ p0, x.block < W.heap.size := by obtain ⟨m, hm⟩ := k0; exact DataW.trod_lt m _ _ _ hm
 have lt1 : ∀ x ∈ p1, x.block < W.heap.size := by obtain ⟨m, hm⟩ := k1; exact DataW.trod_lt m _ _ _ hm
 obtain ⟨H1, ρ1, s0, T0, st1, m1, ok0, e0, t0, z0⟩ : ∃ (H' : Heap) (ρ' : Sh.Place) (sv : SV) (T : List (List Int)), Sh.Start W H' ρ' /\ More noRows (fun _ => ⟨0, 0, 0, 0⟩) H' ρ' /\ okSV ρ' H'.size sv /\ conc ρ' sv = .slice a0 len0 cap0 /\ Go.Sh.Of.IsInts2 H' sv T /\ ∀ r ∈ T, ∀ z ∈ r, Go.Sh.I64 z := by
  obtain ⟨fuel, hf⟩ := h0
  exact Go.Sh.Of.lay_rows Tryz.underlying22 Tryz.underlying44 Tryz.underlying2 (by kernel_rfl) (by kernel_rfl) hf (Sh.Start.none W (fun _ => ⟨0, 0, 0, 0⟩))
 obtain ⟨H2, ρ2, s1, T1, st2, m2, ok1, e1, t1, z1, _⟩ : ∃ (H' : Heap) (ρ' : Sh.Place) (sv : SV) (T : List (List (List UInt8))), Sh.Start W H' ρ' /\ More H1 ρ1 H' ρ' /\ okSV ρ' H'.size sv /\ conc ρ' sv = .slice a1 len1 cap1 /\ Go.Sh.Of.IsTexts H' sv T /\ Go.Sh.Of.ShortT T /\ Cutable sv := by
  obtain ⟨fuel, hf⟩ := h1
  exact Go.Sh.Of.lay_texts Tryz.underlying23 Tryz.underlying59 Tryz.underlying9 (by kernel_rfl) (by kernel_rfl) hf st1
 obtain ⟨ok0', c0⟩ := (m2).okSV ok0
 clear hA0 hval0
 refine (walk W st2 (vrl_cons ok0' (c0.trans e0) (vrl_cons ok1 e1 vrl_nil)) (Go.Sh.Of.IsRowsC.fr t0 (m2).fr) z0 t1 z1).mono fun e W' ⟨he, bel⟩ => ?_
 subst he
 exact ⟨_, rfl, _, _, _, [], _, [], hW', trodAll_cons_mk (shut_bool Tryz.underlying4 _) trodAll_mk0, (trodAll_cons_mk (bel.trod laidOut (by kernel_rfl) (of_decide_eq_true (by kernel_rfl)) k0 lt0) (trodAll_cons_mk (bel.trod laidOut (by kernel_rfl) (of_decide_eq_true (by kernel_rfl)) k1 lt1) trodAll_mk0)), rfl, bel.frame _, fun h => by cases h⟩
theorem proved : Rows.GramChangesSaid :=
 OpenClaim.holds_of_wide 3 Tryz.f3 rfl rfl rfl rfl rfl rfl rfl ⟨rfl, rfl, rfl, rfl, rfl⟩ rfl rfl rfl rfl rfl (by kernel_rfl) Tryz.func3 (by kernel_rfl)
  (of_decide_eq_true (by kernel_rfl)) (by unfold Func.isWrapper; first | (rw [if_pos (by decide +kernel)]; kernel_rfl) | (rw [if_neg (by decide +kernel)]; exact ⟨rfl, rfl⟩))
  (fun os started H enc _ => lifted os started H enc)
#print axioms proved
end Go.Proofs.YtkgbokkeemjkkaaGreat.gramChanges

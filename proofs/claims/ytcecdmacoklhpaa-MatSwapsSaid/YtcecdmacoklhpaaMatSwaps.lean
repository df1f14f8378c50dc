/- MatSwaps returns true at every call, whatever the rows and the two numbers, and turns nothing that was there before it: no condition. -/
import Derived.Test.YtcecdmacoklhpaaRows
import Derived.Test.YtcecdmacoklhpaaSwapsB
import Derived.ProofKit
import Derived.OpenShut
import Derived.Carry
namespace Go.Proofs.Ytcecdmacoklhpaa.matSwaps
open Go.ChangeShapes Go.WideShapes Go.ChangeAt Go.RowKit Go.Sh
set_option linter.unusedVariables false

theorem own : ownKnob Try.prog.godebug = none := by kernel_rfl
theorem laidOut : laidOutB Try.prog = true := by kernel_rfl

theorem loops (T : List (List (List UInt8))) (h : Go.Sh.Of.ShortT T) : ∃ K, Go.Sh.Of.TextsOk K T := by
  have key : ∀ (l : List (List UInt8)), ∃ K, ∀ s ∈ l, s.length < K := by
    intro l
    induction l with
    | nil => exact ⟨0, fun s hs => by cases hs⟩
    | cons s l ih =>
      obtain ⟨K, hK⟩ := ih
      refine ⟨K + s.length + 1, fun t ht => ?_⟩
      rcases List.mem_cons.1 ht with rfl | ht
      · omega
      · have := hK t ht; omega
  obtain ⟨K, hK⟩ := key T.flatten
  exact ⟨K, fun r hr s hs => ⟨Nat.lt_of_le_of_lt (h r hr s hs) (by decide), hK s (List.mem_flatten.2 ⟨r, hr, hs⟩)⟩⟩
theorem textsOk_mono {K K' : Nat} {T : List (List (List UInt8))} (h : Go.Sh.Of.TextsOk K T) (hk : K ≤ K') : Go.Sh.Of.TextsOk K' T := fun r hr s hs => ⟨(h r hr s hs).1, Nat.lt_of_lt_of_le (h r hr s hs).2 hk⟩

theorem walk (W : World) {u v w : Value} {H : Heap} {ρ : Sh.Place} {x : SV} {i j : Int} {S : List (List (List UInt8))} (hs : Sh.Start W H ρ) (hv : VRL ρ H.size [x, .int .i64 i, .int .i64 j] [u, v, w]) (hx : Go.Sh.Of.IsTexts H x S) (sx : Go.Sh.Of.ShortT S) :
    Calls Try.prog 3 #[u, v, w] W fun e W' => e = .returned (.bool true) ∧ Below W.heap.size W W' := by
  obtain ⟨a, ha⟩ := loops S sx
  obtain ⟨H', h⟩ := Go.Sh.Of.swaps_ok (4000000 + a) (by omega) 20 H hx (textsOk_mono ha (by omega)) i j
  exact calls_law Go.Sh.Of.wkOk (l := Go.Sh.Of.ents) Go.Sh.Of.entsOk Go.Sh.Of.tab_eq Go.Sh.Of.comp Go.Sh.Of.within Go.Sh.Of.mixed h hs hv

set_option maxRecDepth 100000 in
theorem lifted (os : Os) (started : os.Started) (H : Type) (enc : TypeId × Value → H) :
    ReturnsInHanded {} Try.checked os 3 .any (Rows.matSwapsSpec.pre6 enc Try.prog Try.f3 Rows.matSwapsRow.domain false) (Rows.matSwapsSpec.post enc Try.prog Try.f3 false true false false) := by
  refine returnsInHanded_of_change (C := Try.checked) own started (by kernel_rfl) Try.func3
    (ChangeSpec.witness6 (enc := enc) (C := Try.checked) false ⟨#[], #[.slice none 0 0, .int .i64 0, .int .i64 0], []⟩ 8 (by kernel_rfl) (by kernel_rfl) (by kernel_rfl) (by kernel_rfl)) ?_
  intro W base args ds gs before hval0 hW hcnd _
  have hval : ∀ (j : Nat) t v, Try.f3.params[j]? = some t → args[j]? = some v → Value.okWide Try.prog W .any base t v := hval0
  have hW' := hW
  obtain ⟨p, q, hA0, hV, rfl, hfz, hnd⟩ := hW
  have hA : DataW.TrodAll enc Try.prog W 0 (fun _ => true) true Try.f3.params.toList args.toList ds p := hA0
  rw [Try.params3] at hA hval
  obtain ⟨v0, vs0, d0, ds0, p0, q0, hargs, rfl, rfl, h0, r0⟩ := trodAll_cons hA
  obtain ⟨v1, vs1, d1, ds1, p1, q1, rfl, rfl, rfl, h1, r1⟩ := trodAll_cons r0
  obtain ⟨v2, vs2, d2, ds2, p2, q2, rfl, rfl, rfl, h2, r2⟩ := trodAll_cons r1
  obtain ⟨rfl, rfl, rfl⟩ := trodAll_nil r2
  obtain rfl : args = #[v0, v1, v2] := by cases args; simp_all
  obtain ⟨rfl, rfl⟩ := trodVars_none hV
  have hv0 := hval 0 22 v0 rfl rfl
  have hv1 := hval 1 3 v1 rfl rfl
  have hv2 := hval 2 3 v2 rfl rfl
  obtain ⟨a0, len0, cap0, rfl⟩ := okWide_slice Try.underlying22 hv0
  have k0 := h0
  have k1 := h1
  have k2 := h2
  obtain ⟨i, rfl, _, _, wf1⟩ := open_int Try.underlying3 hv1 h1
  obtain ⟨j, rfl, _, _, wf2⟩ := open_int Try.underlying3 hv2 h2
  have lt0 : ∀ x ∈ p0, x.block < W.heap.size := by obtain ⟨m, hm⟩ := k0; exact DataW.trod_lt m _ _ _ hm
  have lt1 : ∀ x ∈ p1, x.block < W.heap.size := by obtain ⟨m, hm⟩ := k1; exact DataW.trod_lt m _ _ _ hm
  have lt2 : ∀ x ∈ p2, x.block < W.heap.size := by obtain ⟨m, hm⟩ := k2; exact DataW.trod_lt m _ _ _ hm
  have lay := fun (a : Option Addr) (len cap : Nat) (d : DataW H) (p : List MemPlace) (h : DataW.Trod enc Try.prog W 0 (fun _ => true) true 22 (.slice a len cap) d p) (H0 : Heap) (ρ0 : Sh.Place) (hs : Sh.Start W H0 ρ0) =>
    show ∃ (H' : Heap) (ρ' : Sh.Place) (sv : SV) (T : List (List (List UInt8))), Sh.Start W H' ρ' ∧ More H0 ρ0 H' ρ' ∧ okSV ρ' H'.size sv ∧ conc ρ' sv = .slice a len cap ∧ Go.Sh.Of.IsTexts H' sv T ∧ Go.Sh.Of.ShortT T ∧ Cutable sv by
      obtain ⟨fuel, hf⟩ := h
      exact Go.Sh.Of.lay_texts Try.underlying22 Try.underlying42 Try.underlying9 (by kernel_rfl) (by kernel_rfl) hf hs
  obtain ⟨H1, ρ1, s0, T0, st1, m1, ok0, e0, t0, sh0, _⟩ := lay a0 len0 cap0 d0 p0 h0 noRows (fun _ => ⟨0, 0, 0, 0⟩) (Sh.Start.none W _)
  clear hA0 hval0
  refine (walk W (i := i) (j := j) st1 (vrl_cons ok0 e0 (vrl_cons (by simp [Go.Sh.okSV]) (by simp [conc]) (vrl_cons (by simp [Go.Sh.okSV]) (by simp [conc]) vrl_nil))) t0 sh0).mono fun e W' ⟨he, bel⟩ => ?_
  subst he
  exact ⟨_, rfl, _, _, _, [], _, [], hW', trodAll_cons_mk (shut_bool Try.underlying4 _) trodAll_mk0, trodAll_cons_mk (bel.trod laidOut (by kernel_rfl) (of_decide_eq_true (by kernel_rfl)) k0 lt0) (trodAll_cons_mk (bel.trod laidOut (by kernel_rfl) (of_decide_eq_true (by kernel_rfl)) k1 lt1) (trodAll_cons_mk (bel.trod laidOut (by kernel_rfl) (of_decide_eq_true (by kernel_rfl)) k2 lt2) trodAll_mk0)), rfl, bel.frame _, fun h => by cases h⟩

theorem proved : Rows.MatSwapsSaid :=
  OpenClaim.holds_of_wide 3 Try.f3 rfl rfl rfl rfl rfl rfl rfl ⟨rfl, rfl, rfl, rfl, rfl⟩ rfl rfl rfl rfl rfl (by kernel_rfl) Try.func3 (by kernel_rfl)
    (of_decide_eq_true (by kernel_rfl)) (by unfold Func.isWrapper; first | (rw [if_pos (by decide +kernel)]; kernel_rfl) | (rw [if_neg (by decide +kernel)]; exact ⟨rfl, rfl⟩))
    (fun os started H enc _ => lifted os started H enc)
#print axioms proved
end Go.Proofs.Ytcecdmacoklhpaa.matSwaps

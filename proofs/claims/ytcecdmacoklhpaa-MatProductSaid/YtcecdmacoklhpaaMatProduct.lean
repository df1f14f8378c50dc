/- MatProduct returns true at every call, whatever the rows of texts, and turns nothing that was there before it: no condition. -/
import Derived.Test.YtcecdmacoklhpaaRows
import Derived.Test.YtcecdmacoklhpaaProd
import Derived.ProofKit
import Derived.OpenShut
import Derived.Carry
namespace Go.Proofs.Ytcecdmacoklhpaa.matProduct
open Go.ChangeShapes Go.WideShapes Go.ChangeAt Go.RowKit Go.Sh
set_option linter.unusedVariables false

theorem own : ownKnob Try.prog.godebug = none := by kernel_rfl
theorem laidOut : laidOutB Try.prog = true := by kernel_rfl

theorem loops (T : List (List (List UInt8))) (h : Go.Sh.Of.ShortT T) : ∃ K, Go.Sh.Of.TextsOk K T := by
  have key : ∀ (l : List (List UInt8)), ∃ K, ∀ s ∈ l, s.length < K := by
    intro l
    induction l with
    | nil => exact ⟨0, fun s hs => by cases hs⟩
    | cons s l ih =>
      obtain ⟨K, hK⟩ := ih
      refine ⟨K + s.length + 1, fun t ht => ?_⟩
      rcases List.mem_cons.1 ht with rfl | ht
      · omega
      · have := hK t ht; omega
  obtain ⟨K, hK⟩ := key T.flatten
  exact ⟨K, fun r hr s hs => ⟨Nat.lt_of_le_of_lt (h r hr s hs) (by decide), hK s (List.mem_flatten.2 ⟨r, hr, hs⟩)⟩⟩
theorem textsOk_mono {K K' : Nat} {T : List (List (List UInt8))} (h : Go.Sh.Of.TextsOk K T) (hk : K ≤ K') : Go.Sh.Of.TextsOk K' T := fun r hr s hs => ⟨(h r hr s hs).1, Nat.lt_of_lt_of_le (h r hr s hs).2 hk⟩

theorem walk (W : World) {u v : Value} {H : Heap} {ρ : Sh.Place} {x y : SV} {S T : List (List (List UInt8))} (hs : Sh.Start W H ρ) (hv : VRL ρ H.size [x, y] [u, v]) (hx : Go.Sh.Of.IsTexts H x S) (hy : Go.Sh.Of.IsTexts H y T) (sx : Go.Sh.Of.ShortT S) (sy : Go.Sh.Of.ShortT T) :
    Calls Try.prog 4 #[u, v] W fun e W' => e = .returned (.bool true) ∧ Below W.heap.size W W' := by
  obtain ⟨a, ha⟩ := loops S sx
  obtain ⟨b, hb⟩ := loops T sy
  obtain ⟨H', h⟩ := Go.Sh.Of.prod_ok (4000000 + a + b) (by omega) 20 H hx hy (textsOk_mono ha (by omega)) (textsOk_mono hb (by omega))
  exact calls_law Go.Sh.Of.wkOk (l := Go.Sh.Of.ents) Go.Sh.Of.entsOk Go.Sh.Of.tab_eq Go.Sh.Of.comp Go.Sh.Of.within Go.Sh.Of.mixed h hs hv

set_option maxRecDepth 100000 in
theorem lifted (os : Os) (started : os.Started) (H : Type) (enc : TypeId × Value → H) :
    ReturnsInHanded {} Try.checked os 4 .any (Rows.matProductSpec.pre6 enc Try.prog Try.f4 Rows.matProductRow.domain false) (Rows.matProductSpec.post enc Try.prog Try.f4 false true false false) := by
  refine returnsInHanded_of_change (C := Try.checked) own started (by kernel_rfl) Try.func4
    (ChangeSpec.witness6 (enc := enc) (C := Try.checked) false ⟨#[], #[.slice none 0 0, .slice none 0 0], []⟩ 8 (by kernel_rfl) (by kernel_rfl) (by kernel_rfl) (by kernel_rfl)) ?_
  intro W base args ds gs before hval0 hW hcnd _
  have hval : ∀ (j : Nat) t v, Try.f4.params[j]? = some t → args[j]? = some v → Value.okWide Try.prog W .any base t v := hval0
  have hW' := hW
  obtain ⟨p, q, hA0, hV, rfl, hfz, hnd⟩ := hW
  have hA : DataW.TrodAll enc Try.prog W 0 (fun _ => true) true Try.f4.params.toList args.toList ds p := hA0
  rw [Try.params4] at hA hval
  obtain ⟨v0, vs0, d0, ds0, p0, q0, hargs, rfl, rfl, h0, r0⟩ := trodAll_cons hA
  obtain ⟨v1, vs1, d1, ds1, p1, q1, rfl, rfl, rfl, h1, r1⟩ := trodAll_cons r0
  obtain ⟨rfl, rfl, rfl⟩ := trodAll_nil r1
  obtain rfl : args = #[v0, v1] := by cases args; simp_all
  obtain ⟨rfl, rfl⟩ := trodVars_none hV
  have hv0 := hval 0 22 v0 rfl rfl
  have hv1 := hval 1 22 v1 rfl rfl
  obtain ⟨a0, len0, cap0, rfl⟩ := okWide_slice Try.underlying22 hv0
  obtain ⟨a1, len1, cap1, rfl⟩ := okWide_slice Try.underlying22 hv1
  have k0 := h0
  have k1 := h1
  have lt0 : ∀ x ∈ p0, x.block < W.heap.size := by obtain ⟨m, hm⟩ := k0; exact DataW.trod_lt m _ _ _ hm
  have lt1 : ∀ x ∈ p1, x.block < W.heap.size := by obtain ⟨m, hm⟩ := k1; exact DataW.trod_lt m _ _ _ hm
  have lay := fun (a : Option Addr) (len cap : Nat) (d : DataW H) (p : List MemPlace) (h : DataW.Trod enc Try.prog W 0 (fun _ => true) true 22 (.slice a len cap) d p) (H0 : Heap) (ρ0 : Sh.Place) (hs : Sh.Start W H0 ρ0) =>
    show ∃ (H' : Heap) (ρ' : Sh.Place) (sv : SV) (T : List (List (List UInt8))), Sh.Start W H' ρ' ∧ More H0 ρ0 H' ρ' ∧ okSV ρ' H'.size sv ∧ conc ρ' sv = .slice a len cap ∧ Go.Sh.Of.IsTexts H' sv T ∧ Go.Sh.Of.ShortT T ∧ Cutable sv by
      obtain ⟨fuel, hf⟩ := h
      exact Go.Sh.Of.lay_texts Try.underlying22 Try.underlying42 Try.underlying9 (by kernel_rfl) (by kernel_rfl) hf hs
  obtain ⟨H1, ρ1, s0, T0, st1, m1, ok0, e0, t0, sh0, _⟩ := lay a0 len0 cap0 d0 p0 h0 noRows (fun _ => ⟨0, 0, 0, 0⟩) (Sh.Start.none W _)
  obtain ⟨H2, ρ2, s1, T1, st2, m2, ok1, e1, t1, sh1, _⟩ := lay a1 len1 cap1 d1 p1 h1 H1 ρ1 st1
  obtain ⟨ok0', c0⟩ := m2.okSV ok0
  clear hA0 hval0
  refine (walk W st2 (vrl_cons ok0' (c0.trans e0) (vrl_cons ok1 e1 vrl_nil)) (t0.fr m2.fr) t1 sh0 sh1).mono fun e W' ⟨he, bel⟩ => ?_
  subst he
  exact ⟨_, rfl, _, _, _, [], _, [], hW', trodAll_cons_mk (shut_bool Try.underlying4 _) trodAll_mk0, trodAll_cons_mk (bel.trod laidOut (by kernel_rfl) (of_decide_eq_true (by kernel_rfl)) k0 lt0) (trodAll_cons_mk (bel.trod laidOut (by kernel_rfl) (of_decide_eq_true (by kernel_rfl)) k1 lt1) trodAll_mk0), rfl, bel.frame _, fun h => by cases h⟩

theorem proved : Rows.MatProductSaid :=
  OpenClaim.holds_of_wide 4 Try.f4 rfl rfl rfl rfl rfl rfl rfl ⟨rfl, rfl, rfl, rfl, rfl⟩ rfl rfl rfl rfl rfl (by kernel_rfl) Try.func4 (by kernel_rfl)
    (of_decide_eq_true (by kernel_rfl)) (by unfold Func.isWrapper; first | (rw [if_pos (by decide +kernel)]; kernel_rfl) | (rw [if_neg (by decide +kernel)]; exact ⟨rfl, rfl⟩))
    (fun os started H enc _ => lifted os started H enc)
#print axioms proved
end Go.Proofs.Ytcecdmacoklhpaa.matProduct

/- PermCycles returns true at every call, whatever the list of bytes and the byte, and turns nothing that was there before it: no condition. -/
import Derived.Test.YtdmpghboginogaaRows
import Derived.Test.YtdmpghboginogaaCycD
import Derived.ProofKit
import Derived.OpenShut
import Derived.Carry
namespace Go.Proofs.Ytdmpghboginogaa.permCycles
open Go.ChangeShapes Go.WideShapes Go.ChangeAt Go.RowKit Go.Sh
set_option linter.unusedVariables false

theorem own : ownKnob Try.prog.godebug = none := by kernel_rfl
theorem laidOut : laidOutB Try.prog = true := by kernel_rfl
theorem spot_none {P : Program} {W : World} {r : Reach} {b : Nat} {t e : TypeId} {a : Addr} {len cap : Nat} (ht : P.underlying t = some (.slice e)) (h : Value.okWide P W r b t (.slice (some a) len cap)) : a.spot = none := by
  simp only [Value.okWide, ht, Cell.okWide, Cell.ok] at h
  exact h.2.2.2.1

theorem wf_u8 {zs : List Int} (h : ∀ n ∈ zs, (Lit.int .u8 n).wf = true) : ∀ x ∈ zs, 0 ≤ x ∧ x < 256 := fun x hx => by
  have h1 := h x hx
  simp only [Lit.wf, Bool.and_eq_true, decide_eq_true_eq] at h1
  obtain ⟨a, b⟩ := h1
  have e1 : IntKind.u8.min = 0 := by decide
  have e2 : IntKind.u8.max = 255 := by decide
  rw [e1] at a
  rw [e2] at b
  omega
theorem walk (W : World) {v u : Value} {H : Heap} {ρ : Sh.Place} {x : SV} {p : List Int} {N : Nat} (hs : Sh.Start W H ρ) (hv : VRL ρ H.size [x, u8 N] [v, u]) (hx : Arr H x (intsL .u8 p)) (hp : ∀ x ∈ p, 0 ≤ x ∧ x < 256) (hN : N < 256) :
    Calls Try.prog 4 #[v, u] W fun e W' => e = .returned (.bool true) ∧ Below W.heap.size W W' := by
  obtain ⟨H', h⟩ := Go.Sh.Of.cycs_ok 4000000 (by omega) 20 H hx hp hN
  exact calls_law Go.Sh.Of.wkOk (l := Go.Sh.Of.ents) Go.Sh.Of.entsOk Go.Sh.Of.tab_eq Go.Sh.Of.comp Go.Sh.Of.within Go.Sh.Of.mixed h hs hv

set_option maxRecDepth 100000 in
theorem lifted (os : Os) (started : os.Started) (H : Type) (enc : TypeId × Value → H) :
    ReturnsInHanded {} Try.checked os 4 .any (Rows.permCyclesSpec.pre6 enc Try.prog Try.f4 Rows.permCyclesRow.domain false) (Rows.permCyclesSpec.post enc Try.prog Try.f4 false true false false) := by
  refine returnsInHanded_of_change (C := Try.checked) own started (by kernel_rfl) Try.func4
    (ChangeSpec.witness6 (enc := enc) (C := Try.checked) false ⟨#[], #[.slice none 0 0, .int .u8 0], []⟩ 8 (by kernel_rfl) (by kernel_rfl) (by kernel_rfl) (by kernel_rfl)) ?_
  intro W base args ds gs before hval0 hW hcnd _
  have hval : ∀ (j : Nat) t v, Try.f4.params[j]? = some t → args[j]? = some v → Value.okWide Try.prog W .any base t v := hval0
  have hW' := hW
  obtain ⟨p, q, hA0, hV, rfl, hfz, hnd⟩ := hW
  have hA : DataW.TrodAll enc Try.prog W 0 (fun _ => true) true Try.f4.params.toList args.toList ds p := hA0
  rw [Try.params4] at hA hval
  obtain ⟨v0, vs0, d0, ds0, p0, q0, hargs, rfl, rfl, h0, r0⟩ := trodAll_cons hA
  obtain ⟨v3, vs3, d3, ds3, p3, q3, rfl, rfl, rfl, h3, r3⟩ := trodAll_cons r0
  obtain ⟨rfl, rfl, rfl⟩ := trodAll_nil r3
  obtain rfl : args = #[v0, v3] := by cases args; simp_all
  obtain ⟨rfl, rfl⟩ := trodVars_none hV
  have hv0 := hval 0 22 v0 rfl rfl
  have hv3 := hval 1 5 v3 rfl rfl
  obtain ⟨a0, len0, cap0, rfl⟩ := okWide_slice Try.underlying22 hv0
  have k0 := h0
  have k3 := h3
  obtain ⟨n, rfl, _, _, wf2⟩ := open_int Try.underlying5 hv3 h3
  have lt0 : ∀ x ∈ p0, x.block < W.heap.size := by obtain ⟨m, hm⟩ := k0; exact DataW.trod_lt m _ _ _ hm
  have lt3 : ∀ x ∈ p3, x.block < W.heap.size := by obtain ⟨m, hm⟩ := k3; exact DataW.trod_lt m _ _ _ hm
  obtain ⟨z0, w0, b0⟩ : ∃ zs, IsRow .u8 W a0 len0 cap0 zs ∧ ∀ x ∈ zs, 0 ≤ x ∧ x < 256 := by
    obtain ⟨fuel, hf⟩ := h0
    rcases open_ints Try.underlying22 Try.underlying5 (by kernel_rfl) hf with ⟨hcs, _⟩ | ⟨x, l, c, zs, hcs, _, hl, hm, hz, _, hcell, hwz⟩
    · simp [Value.cells] at hcs
      obtain ⟨rfl, rfl, rfl⟩ := hcs
      exact ⟨[], .inl ⟨rfl, rfl, rfl, rfl⟩, fun x hx => by cases hx⟩
    · simp [Value.cells] at hcs
      obtain ⟨rfl, rfl, rfl⟩ := hcs
      exact ⟨zs, .inr ⟨_, rfl, hl, by simpa using hz, hcell, spot_none Try.underlying22 hv0⟩, wf_u8 hwz⟩
  clear hA0 hval0
  obtain ⟨H1, ρ1, s0, st1, _, ok0, e0, ar0, _⟩ := (Sh.Start.none W (fun _ => ⟨0, 0, 0, 0⟩)).ints w0
  have hn := wf_u8 (zs := [n]) (fun m hm => by rw [List.mem_singleton.1 hm]; exact wf2) n (by simp)
  obtain ⟨N, rfl⟩ : ∃ N : Nat, n = N := ⟨n.toNat, by omega⟩
  refine (walk W (N := N) st1 (vrl_cons ok0 e0 (vrl_cons (by simp [Go.Sh.okSV]) (by simp [conc]) vrl_nil)) ar0 (fun x hx => b0 x (List.mem_of_mem_take hx)) (by omega)).mono fun e W' ⟨he, bel⟩ => ?_
  subst he
  exact ⟨_, rfl, _, _, _, [], _, [], hW', trodAll_cons_mk (shut_bool Try.underlying4 _) trodAll_mk0, trodAll_cons_mk (bel.trod laidOut (by kernel_rfl) (of_decide_eq_true (by kernel_rfl)) k0 lt0) (trodAll_cons_mk (bel.trod laidOut (by kernel_rfl) (of_decide_eq_true (by kernel_rfl)) k3 lt3) trodAll_mk0), rfl, bel.frame _, fun h => by cases h⟩

theorem proved : Rows.PermCyclesSaid :=
  OpenClaim.holds_of_wide 4 Try.f4 rfl rfl rfl rfl rfl rfl rfl ⟨rfl, rfl, rfl, rfl, rfl⟩ rfl rfl rfl rfl rfl (by kernel_rfl) Try.func4 (by kernel_rfl)
    (of_decide_eq_true (by kernel_rfl)) (by unfold Func.isWrapper; first | (rw [if_pos (by decide +kernel)]; kernel_rfl) | (rw [if_neg (by decide +kernel)]; exact ⟨rfl, rfl⟩))
    (fun os started H enc _ => lifted os started H enc)
#print axioms proved
end Go.Proofs.Ytdmpghboginogaa.permCycles

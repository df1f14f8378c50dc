/- GramChecks: the walk. -/
import Derived.Test.YtkgbokkeemjkkaaRChk
import Derived.Test.YtkgbokkeemjkkaaChg
import Derived.Test.YtkgbokkeemjkkaaKeep
set_option linter.unusedVariables false
set_option linter.unusedSimpArgs false
namespace Go.Sh.Of
open Go Go.Sh

def evP (A : List (List Int)) (i j : Nat) : Bool := decide (i ≠ j) || ((ent A i j).tmod 2 == 0)
def evB (A : List (List Int)) : Bool := outB (evP A) A 0
theorem evB_iff {A : List (List Int)} (h : ∀ r ∈ A, r.length = A.length) : evB A = true ↔ ∀ i, i < A.length → (ent A i i).tmod 2 = 0 := by
  unfold evB
  rw [outB_iff]
  constructor
  · intro h1 i hi
    have hm := List.getElem_mem hi
    have := h1 i _ i (List.getElem?_eq_getElem hi) (by rw [h _ hm]; exact hi)
    simpa [evP] using this
  · intro h1 x r k hx hk
    have hl := (List.getElem?_eq_some_iff.1 hx).1
    rw [Nat.zero_add]
    unfold evP
    by_cases e : x = k
    · subst e
      rw [h1 x hl]
      simp
    · rw [decide_eq_true (show x ≠ k from e)]
      rfl
theorem geven_run (K d : Nat) (H : Heap) (v : SV) : runQ wk tab slow K (d + 10) 31 [v] H = f31 slow K (runQ wk tab slow K (d + 9)) v H := Eq.trans rfl rfl
theorem geven_ok (K : Nat) (hK : 1000000 < K) (d : Nat) (H : Heap) {v : SV} {A : List (List Int)} (hv : IsInts2 H v A) :
    ∃ H', runQ wk tab slow K (d + 10) 31 [v] H = some (.tuple [.bool (if chkE A = 0 then evB A else false), .int .i64 (chkE A)], H') ∧ Frame H H' := by
  rw [geven_run]
  obtain ⟨H1, h1, f1⟩ := chk_ok K (by omega) d H hv
  by_cases e : chkE A = 0
  · have b : ((0 : Int) != 0) = false := rfl
    have hs := (chk_form.1 e).sq
    have h8 := hs.n8
    have e1 : runQ wk tab slow K (d + 9) 42 [v, .fn 70 [] []] H1 = some (.bool (evB A), H1) := each_pure K (d + 8) H1 (IsRowsC.fr hv f1) (fun i j r z hr hz => by
      show f70 slow K (runQ wk tab slow K (d + 7)) (i64 i) (i64 j) (.int .i64 z) H1 = _
      have hez : ent A i j = z := ent_of hr hz
      unfold evP
      rw [hez]
      simp only [f70, n_neq]
      by_cases hij : i = j
      · rw [decide_eq_false fun h => h hij]
        simp only [z_guard, cond_false, z_rem .i64 z (show (2 : Int) ≠ 0 by decide), z_eql, f70_j1, z_rest_bool, Bool.false_or]
      · rw [decide_eq_true hij]
        simp only [z_guard, cond_true, f70_j1, z_rest_bool, Bool.true_or]) ⟨by omega, by omega⟩ (fun r hr => by
      have := hs.sq r hr
      exact ⟨by omega, by omega⟩)
    refine ⟨H1, ?_, f1⟩
    rw [if_pos e]
    rw [e] at h1 ⊢
    simp only [f31, h1, z_call, z_neq, b, z_cond, cond_false, e1, z_rest_bool]
  · have b : (chkE A != 0) = true := by simp [e]
    refine ⟨H1, ?_, f1⟩
    rw [if_neg e]
    simp only [f31, h1, z_call, z_neq, b, z_cond, cond_true, z_rest_int]
theorem reven_loop (C : CallC) (K : Nat) {H : Heap} {v : SV} {A : List (List Int)} (hv : IsInts2 H v A) (hs : Sq A) : ∀ (m i fuel : Nat), i + m = A.length → m < fuel → (∀ t, t < i → (ent A t t).tmod 2 = 0) →
    slow.loop2 (f36_l1 slow K C) fuel v (i64 i) H = some (.bool (evB A), H)
  | 0, i, fuel, him, hf, hd => by
    obtain ⟨fuel, rfl⟩ : ∃ q, fuel = q + 1 := ⟨fuel - 1, by omega⟩
    have hlt : ¬ i < A.length := by omega
    have e : evB A = true := (evB_iff hs.sq).2 fun t ht => hd t (by omega)
    rw [e, z_loop2]
    simp only [f36_l1, ints_len hv, n_lss, decide_eq_false hlt, z_cond, cond_false]
  | m + 1, i, fuel, him, hf, hd => by
    obtain ⟨fuel, rfl⟩ : ∃ q, fuel = q + 1 := ⟨fuel - 1, by omega⟩
    have hlt : i < A.length := by omega
    have h8 := hs.n8
    obtain ⟨r, a1, a2, _⟩ := hs.at hlt hlt
    obtain ⟨w, l1, l2⟩ := ints_entry hv a1 a2
    rw [z_loop2]
    simp only [f36_l1, ints_len hv, n_lss, decide_eq_true hlt, z_cond, cond_true, l1, l2, z_rem .i64 _ (show (2 : Int) ≠ 0 by decide), z_neq]
    by_cases e : (ent A i i).tmod 2 = 0
    · have b : ((ent A i i).tmod 2 != 0) = false := by simp [e]
      rw [b]
      simp only [cond_false, w_inc (show i < 1000000 by omega)]
      exact reven_loop C K hv hs m (i + 1) fuel (by omega) (by omega) fun t ht => by
        by_cases h : t = i
        · rw [h]; exact e
        · exact hd t (by omega)
    · have b : ((ent A i i).tmod 2 != 0) = true := by simp [e]
      have e2 : evB A = false := by
        cases h : evB A with
        | false => rfl
        | true => exact absurd ((evB_iff hs.sq).1 h i hlt) e
      rw [b, e2]
      rfl
theorem reven_ok (K : Nat) (hK : 1000 < K) (d : Nat) (H : Heap) {v : SV} {A : List (List Int)} (hv : IsInts2 H v A) (hs : Sq A) :
    runQ wk tab slow K (d + 1) 36 [v] H = some (.bool (evB A), H) := by
  have h8 := hs.n8
  exact reven_loop (runQ wk tab slow K d) K hv hs A.length 0 K (by omega) (by omega) fun t ht => absurd ht (Nat.not_lt_zero t)
theorem textZ_pos {z : Int} (h : 0 ≤ z) : textZ z = dec z.natAbs := by
  unfold textZ
  rw [if_neg (by omega)]
theorem checks_j3 (K : Nat) (hK : 3000000 < K) (d : Nat) (H : Heap) {v x : SV} {A : List (List Int)} (hv : IsInts2 H v A) (hx : IsNat H (.agg [x]) (if chkE A = 0 then (det A.length (ent A)).natAbs else 0)) :
    ∃ H', f7_j3 slow K (runQ wk tab slow K (d + 21)) v (.int .i64 (chkE A)) (.box [x]) (.bool (if chkE A = 0 then evB A else false)) (.bool false) H = some (.bool true, H') := by
  by_cases e : chkE A = 0
  · have b : ((0 : Int) != 0) = false := rfl
    have hF := chk_form.1 e
    have hs := hF.sq
    rw [if_pos e] at hx ⊢
    have hsm := sq_det_small hs
    have hdl := dec_bits hsm
    have hdg := dg_len hsm
    have hpos : 0 < det A.length (ent A) := hF.cor _ hs.n0 (Nat.le_refl _)
    obtain ⟨H1, h1, f1⟩ := text_ok K (d + 19) H hx (by omega) (by omega) (by omega) (by omega) (by omega)
    rw [show d + 19 + 2 = d + 21 from rfl] at h1
    obtain ⟨r, H2, h2, f2, n2⟩ := rdet7_ok K hK (d + 12) H1 (IsRowsC.fr hv f1) hs
    rw [show d + 12 + 9 = d + 21 from rfl] at h2
    have hrl := rbig hsm
    obtain ⟨H3, h3, f3⟩ := rztext_ok K (d + 15) H2 n2 hK (by omega) (by omega)
    rw [show d + 15 + 6 = d + 21 from rfl, textZ_pos (by omega)] at h3
    have h4 := reven_ok K (by omega) (d + 20) H3 (IsRowsC.fr hv (Frame.trans f1 (Frame.trans f2 f3))) hs
    refine ⟨H3, ?_⟩
    rw [e]
    simp only [f7_j3, z_cond, cond_false, z_neq, b, z_lload1, h1, z_call, h2, h3, z_seql, beq_self_eq_true, z_guard, cond_true, h4, z_beql, f7_j7, z_rest_bool]
  · have b : (chkE A != 0) = true := by simp [e]
    rw [if_neg e] at hx ⊢
    have h1 := bits_ok K (d + 19) H hx (by rw [digs_zero]; decide)
    rw [show d + 19 + 2 = d + 21 from rfl] at h1
    have hb0 : bl 0 = 0 := rfl
    rw [hb0] at h1
    have b0 : ∀ k, slow.eql (i64 0) (.int .i64 0) k = k (.bool true) := fun k => by rw [z_eql]; rfl
    refine ⟨H, ?_⟩
    simp only [f7_j3, z_cond, cond_false, z_neq, b, cond_true, z_lload1, h1, z_call, b0, z_guard, z_not, Bool.not_false, f7_j5, z_rest_bool]
theorem checks_run (K d : Nat) (H : Heap) (v : SV) : runQ wk tab slow K (d + 22) 7 [v] H = f7 slow K (runQ wk tab slow K (d + 21)) v H := Eq.trans rfl rfl
theorem checks_ok (K : Nat) (hK : 3000000 < K) (d : Nat) (H : Heap) {v : SV} {A : List (List Int)} (hv : IsInts2 H v A) (_ : ∀ r ∈ A, ∀ z ∈ r, I64 z) :
    ∃ H', runQ wk tab slow K (d + 22) 7 [v] H = some (.bool true, H') := by
  have hw : ∀ H, runQ wk tab slow K (d + 21) 9 [] H = some (.bool true, H) := fun H => rfl
  rw [checks_run]
  obtain ⟨u, H1, h1, ho, f1, _, _⟩ := z_lay1 (H := H) (lo := H.size) (Nat.le_refl _) (.slice nilSl) (IsRowsC.flat hv)
  have hv1 : IsInts2 H1 v A := IsRowsC.fr hv f1
  simp only [f7, hw, z_call, z_not, Bool.not_true, z_guard, cond_false, h1]
  rcases beyond7_ok K (by omega) (d + 20) H1 (Ts := [A]) ho.arr (by simp) rfl (fun i u T' hu hT => by
    match i with
    | 0 => simp at hu hT; subst hu hT; exact hv1
    | n + 1 => simp at hu) with h2 | ⟨hfew, h2⟩
  · refine ⟨H1, ?_⟩
    simp only [h2, z_call, f7_j1, z_cond, cond_true, hw, z_rest_bool]
  · have hfA : FewI A := hfew A (by simp)
    obtain ⟨b, H2, h3, f2, t2⟩ := twin_ok K (by omega) (d + 20) H1 hv1 hfA
    have g2 := Frame.trans f1 f2
    obtain ⟨H3, h4, f3⟩ := chk_ok K (by omega) (d + 12) H2 t2.ints
    rw [show d + 12 + 9 = d + 21 from rfl] at h4
    have g3 := Frame.trans g2 f3
    obtain ⟨H4, h5, f4⟩ := rchk_ok K hK (d + 12) H3 (IsRowsC.fr hv g3)
    rw [show d + 12 + 9 = d + 21 from rfl] at h5
    have g4 := Frame.trans g3 f4
    have t4 := (t2.fr f3).fr f4
    obtain ⟨x, H5, h6, f5, n5⟩ := gdet_ok K (by omega) d H4 t4.ints
    have t5 := t4.fr f5
    obtain ⟨H6, h7, f6⟩ := geven_ok K (by omega) (d + 11) H5 t5.ints
    rw [show d + 11 + 10 = d + 21 from rfl] at h7
    have t6 := t5.fr f6
    have g6 := Frame.trans g4 (Frame.trans f5 f6)
    have h8 := kept_ok K (by omega) (d + 19) H6 (IsRowsC.fr hv g6) t6 hfA
    rw [show d + 19 + 2 = d + 21 from rfl] at h8
    obtain ⟨H7, h9⟩ := checks_j3 K hK d H6 (IsRowsC.fr hv g6) (n5.fr f6)
    have c1 : ∀ k, slow.neq (.int .i64 (chkE A)) (.int .i64 (chkE A)) k = k (.bool false) := fun k => by rw [z_neq, bne_self_eq_false]
    refine ⟨H7, ?_⟩
    simp only [h2, z_call, f7_j1, z_cond, cond_false, h3, h4, h5, h6, z_ext0, z_ext1, z_bst1, h7, c1, z_guard, h8, z_not, Bool.not_true]
    exact h9
end Go.Sh.Of


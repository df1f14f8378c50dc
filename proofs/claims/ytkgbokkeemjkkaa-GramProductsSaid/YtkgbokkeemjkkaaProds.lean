/- GramProducts: the walk. -/
import Derived.Test.YtkgbokkeemjkkaaRDot
import Derived.Test.YtkgbokkeemjkkaaKeep
set_option linter.unusedVariables false
set_option linter.unusedSimpArgs false
namespace Go.Sh.Of
open Go Go.Sh

theorem prods_j12 (K : Nat) (C : CallC) (n e d f : Int) (H : Heap) : f6_j12 slow K C (.int .i64 n) (.int .i64 e) (.int .i64 d) (.int .i64 f) (.int .i64 e) (.int .i64 f) (.int .i64 n) (.int .i64 d) H = some (.bool true, H) := by
  simp only [f6_j12, z_eql, beq_self_eq_true, z_guard, cond_true, f6_j13, z_rest_bool]
theorem small_pair (K : Nat) (hK : 3000000 < K) (d : Nat) (H : Heap) {v u w : SV} {A : List (List Int)} {x y : List Int} (hv : IsInts2 H v A) (hs : Sq A) (hu : Arr H u (intsL .i64 x)) (hw : Arr H w (intsL .i64 y)) (sx : ∀ z ∈ x, I64 z) (sy : ∀ z ∈ y, I64 z) (e1 : x.length = A.length) (e2 : y.length = A.length) :
    ∃ r n H', runQ wk tab slow K (d + 20) 30 [v, u, w] H = some (r, H') ∧ Frame H H' ∧ runQ wk tab slow K (d + 20) 29 [r] H' = some (.tuple [.int .i64 n, .bool (fits64 (bilL A x y))], H') ∧ (fits64 (bilL A x y) = true → n = bilL A x y) := by
  obtain ⟨r, H1, h1, f1, n1⟩ := rdot7_ok K hK (d + 16) H hv hs hu hw sx sy e1 e2
  rw [show d + 16 + 4 = d + 20 from rfl] at h1
  obtain ⟨n, h2, h3⟩ := rzsmall_ok K (by omega) (d + 18) H1 n1 (bilL_small hs sx sy e1 e2).2.2.2
  exact ⟨r, n, H1, h1, f1, h2, h3⟩
theorem prods_j10 (K : Nat) (hK : 3000000 < K) (d : Nat) (H : Heap) {v u w : SV} {A : List (List Int)} {x y : List Int} (hv : IsInts2 H v A) (hs : Sq A) (hu : Arr H u (intsL .i64 x)) (hw : Arr H w (intsL .i64 y)) (sx : ∀ z ∈ x, I64 z) (sy : ∀ z ∈ y, I64 z) (n e two : Int) (h : (two = 5 ∧ gprE A x y = 5) ∨ (two = 0 ∧ x.length = A.length ∧ y.length = A.length)) :
    ∃ H', f6_j10 slow K (runQ wk tab slow K (d + 20)) v u w (.int .i64 n) (.int .i64 e) (.int .i64 (gprN A x y)) (.int .i64 (gprE A x y)) (.int .i64 e) (.int .i64 two) (.int .i64 n) (.int .i64 0) H = some (.bool true, H') := by
  rcases h with ⟨rfl, h5⟩ | ⟨rfl, e1, e2⟩
  · have hn : gprN A x y = 0 := by unfold gprN; rw [h5]; rfl
    have b : ((5 : Int) == 0) = false := rfl
    refine ⟨H, ?_⟩
    rw [hn, h5]
    simp only [f6_j10, z_eql, b, z_cond, cond_false, prods_j12]
  · obtain ⟨r, m, H1, h1, f1, h2, h3⟩ := small_pair K hK d H hv hs hu hw sx sy e1 e2
    have b : ((0 : Int) == 0) = true := rfl
    have hE : gprE A x y = if fits64 (bilL A x y) then 0 else 3 := by
      unfold gprE
      rw [if_neg fun h => h e1, if_neg fun h => h e2]
    refine ⟨H1, ?_⟩
    simp only [f6_j10, z_eql, b, z_cond, cond_true, h1, z_call, h2, z_ext0, z_ext1, z_not]
    cases hf : fits64 (bilL A x y) with
    | true =>
      have hE0 : gprE A x y = 0 := by rw [hE, hf]; rfl
      have hN : gprN A x y = bilL A x y := by unfold gprN; rw [if_pos hE0]
      rw [hE0, hN, h3 hf]
      simp only [Bool.not_true, cond_false, f6_j11, prods_j12]
    | false =>
      have hE0 : gprE A x y = 3 := by rw [hE, hf]; rfl
      have hN : gprN A x y = 0 := by unfold gprN; rw [hE0]; rfl
      rw [hE0, hN]
      simp only [Bool.not_false, cond_true, f6_j11, prods_j12]
theorem prods_j8 (K : Nat) (hK : 3000000 < K) (d : Nat) (H : Heap) {v u w : SV} {A : List (List Int)} {x y : List Int} (hv : IsInts2 H v A) (hs : Sq A) (hu : Arr H u (intsL .i64 x)) (hw : Arr H w (intsL .i64 y)) (sx : ∀ z ∈ x, I64 z) (sy : ∀ z ∈ y, I64 z) (one two : Int) (h0 : (one = 5 ∧ gprE A x x = 5) ∨ (one = 0 ∧ x.length = A.length)) (h : (two = 5 ∧ gprE A x y = 5) ∨ (two = 0 ∧ x.length = A.length ∧ y.length = A.length)) :
    ∃ H', f6_j8 slow K (runQ wk tab slow K (d + 20)) v u w (.int .i64 (gprN A x x)) (.int .i64 (gprE A x x)) (.int .i64 (gprN A x y)) (.int .i64 (gprE A x y)) (.int .i64 one) (.int .i64 two) H = some (.bool true, H') := by
  rcases h0 with ⟨rfl, h5⟩ | ⟨rfl, e1⟩
  · have hn : gprN A x x = 0 := by unfold gprN; rw [h5]; rfl
    have b : ((5 : Int) == 0) = false := rfl
    rw [hn, h5]
    simp only [f6_j8, z_eql, b, z_cond, cond_false]
    exact prods_j10 K hK d H hv hs hu hw sx sy 0 5 two h
  · obtain ⟨r, m, H1, h1, f1, h2, h3⟩ := small_pair K hK d H hv hs hu hu sx sx e1 e1
    have b : ((0 : Int) == 0) = true := rfl
    have hE : gprE A x x = if fits64 (bilL A x x) then 0 else 3 := by
      unfold gprE
      rw [if_neg fun h => h e1, if_neg fun h => h e1]
    simp only [f6_j8, z_eql, b, z_cond, cond_true, h1, z_call, h2, z_ext0, z_ext1, z_not]
    have go := fun n e => prods_j10 K hK d H1 (IsRowsC.fr hv f1) hs (hu.fr f1) (hw.fr f1) sx sy n e two h
    cases hf : fits64 (bilL A x x) with
    | true =>
      have hE0 : gprE A x x = 0 := by rw [hE, hf]; rfl
      have hN : gprN A x x = bilL A x x := by unfold gprN; rw [if_pos hE0]
      rw [hE0, hN, h3 hf]
      simp only [Bool.not_true, cond_false, f6_j9]
      exact go _ _
    | false =>
      have hE0 : gprE A x x = 3 := by rw [hE, hf]; rfl
      have hN : gprN A x x = 0 := by unfold gprN; rw [hE0]; rfl
      rw [hE0, hN]
      simp only [Bool.not_false, cond_true, f6_j9]
      exact go _ _
theorem prods_j3 (K : Nat) (hK : 3000000 < K) (d : Nat) (H : Heap) {v u w : SV} {A : List (List Int)} {x y : List Int} (hv : IsInts2 H v A) (hu : Arr H u (intsL .i64 x)) (hw : Arr H w (intsL .i64 y)) (sx : ∀ z ∈ x, I64 z) (sy : ∀ z ∈ y, I64 z) :
    ∃ H', f6_j3 slow K (runQ wk tab slow K (d + 20)) v u w (.int .i64 (gdotN A x x)) (.int .i64 (gdotE A x x)) (.int .i64 (gdotN A x y)) (.int .i64 (gdotE A x y)) (.bool false) H = some (.bool true, H') := by
  obtain ⟨H1, h1, f1⟩ := rchk_ok K hK (d + 11) H hv
  rw [show d + 11 + 9 = d + 20 from rfl] at h1
  simp only [f6_j3, z_cond, cond_false, h1, z_call, z_neq]
  by_cases e : chkE A = 0
  · have b : (chkE A != 0) = false := by simp [e]
    have hs := (chk_form.1 e).sq
    have h8 := hs.n8
    have hv1 : IsInts2 H1 v A := IsRowsC.fr hv f1
    have hu1 := hu.fr f1
    have hw1 := hw.fr f1
    have c1 : ∀ k, slow.neq (i64 x.length) (i64 A.length) k = k (.bool (decide (x.length ≠ A.length))) := fun k => n_neq k .i64 _ _
    have c2 : ∀ k, slow.neq (i64 y.length) (i64 A.length) k = k (.bool (decide (y.length ≠ A.length))) := fun k => n_neq k .i64 _ _
    have g1 : gdotN A x x = gprN A x x := by unfold gdotN; rw [if_pos e]
    have g2 : gdotE A x x = gprE A x x := by unfold gdotE; rw [if_pos e]
    have g3 : gdotN A x y = gprN A x y := by unfold gdotN; rw [if_pos e]
    have g4 : gdotE A x y = gprE A x y := by unfold gdotE; rw [if_pos e]
    rw [b, g1, g2, g3, g4]
    simp only [cond_false, arr_len hu1, arr_len hw1, ints_len hv1, c1]
    by_cases e1 : x.length = A.length
    · rw [decide_eq_false fun h => h e1]
      simp only [cond_false, f6_j7, arr_len hw1, ints_len hv1, c2, z_cond]
      by_cases e2 : y.length = A.length
      · rw [decide_eq_false fun h => h e2]
        exact prods_j8 K hK d H1 hv1 hs hu1 hw1 sx sy 0 0 (.inr ⟨rfl, e1⟩) (.inr ⟨rfl, e1, e2⟩)
      · rw [decide_eq_true e2]
        exact prods_j8 K hK d H1 hv1 hs hu1 hw1 sx sy 0 5 (.inr ⟨rfl, e1⟩) (.inl ⟨rfl, by unfold gprE; rw [if_neg fun h => h e1, if_pos e2]⟩)
    · have g5 : ∀ y, gprE A x y = 5 := fun y => by unfold gprE; rw [if_pos e1]
      rw [decide_eq_true e1]
      simp only [cond_true, f6_j7, arr_len hw1, ints_len hv1, c2, z_cond]
      by_cases e2 : y.length = A.length
      · rw [decide_eq_false fun h => h e2]
        exact prods_j8 K hK d H1 hv1 hs hu1 hw1 sx sy 5 5 (.inl ⟨rfl, g5 x⟩) (.inl ⟨rfl, g5 y⟩)
      · rw [decide_eq_true e2]
        exact prods_j8 K hK d H1 hv1 hs hu1 hw1 sx sy 5 5 (.inl ⟨rfl, g5 x⟩) (.inl ⟨rfl, g5 y⟩)
  · have b : (chkE A != 0) = true := by simp [e]
    have g1 : gdotN A x x = 0 := by unfold gdotN; rw [if_neg e]
    have g2 : gdotE A x x = chkE A := by unfold gdotE; rw [if_neg e]
    have g3 : gdotN A x y = 0 := by unfold gdotN; rw [if_neg e]
    have g4 : gdotE A x y = chkE A := by unfold gdotE; rw [if_neg e]
    refine ⟨H1, ?_⟩
    rw [b, g1, g2, g3, g4]
    simp only [cond_true, z_eql, beq_self_eq_true, z_guard, f6_j5, z_rest_bool]
theorem products_ok (K : Nat) (hK : 3000000 < K) (d : Nat) (H : Heap) {v u w : SV} {A : List (List Int)} {x y : List Int} (hv : IsInts2 H v A) (_ : ∀ r ∈ A, ∀ z ∈ r, I64 z) (hu : Arr H u (intsL .i64 x)) (sx : ∀ z ∈ x, I64 z) (hw : Arr H w (intsL .i64 y)) (sy : ∀ z ∈ y, I64 z) :
    ∃ H', runQ wk tab slow K (d + 21) 6 [v, u, w] H = some (.bool true, H') := by
  have hw' : ∀ H, runQ wk tab slow K (d + 20) 9 [] H = some (.bool true, H) := fun H => rfl
  show ∃ H', f6 slow K (runQ wk tab slow K (d + 20)) v u w H = _
  obtain ⟨t, H1, h1, ho1, f1, _, _⟩ := z_lay2 (H := H) (lo := H.size) (Nat.le_refl _) (.slice nilSl) (.slice nilSl) hu.flat hw.flat
  obtain ⟨s, H2, h2, ho2, f2, _, _⟩ := z_lay2 (H := H1) (lo := H1.size) (Nat.le_refl _) (.slice nilSl) (.slice nilSl) (IsRowsC.flat hv) ho1.arr.flat
  have f12 := Frame.trans f1 f2
  have hv2 : IsInts2 H2 v A := IsRowsC.fr hv f12
  have hxy : IsInts2 H2 t [x, y] := IntsW.to (ws := [u, w]) ⟨ho1.arr.fr f2, rfl, fun i w' r hw1 hr => by
    match i with
    | 0 => simp at hw1 hr; subst hw1 hr; exact hu.fr f12
    | 1 => simp at hw1 hr; subst hw1 hr; exact hw.fr f12
    | n + 2 => simp at hw1⟩
  simp only [f6, hw', z_call, z_not, Bool.not_true, z_guard, cond_false, h1, h2]
  rcases beyond7_ok K (by omega) (d + 19) H2 (Ts := [A, [x, y]]) ho2.arr (by simp) rfl (fun i u' T' hu' hT => by
    match i with
    | 0 => simp at hu' hT; subst hu' hT; exact hv2
    | 1 => simp at hu' hT; subst hu' hT; exact hxy
    | n + 2 => simp at hu') with h3 | ⟨hfew, h3⟩
  · refine ⟨H2, ?_⟩
    simp only [h3, z_call, f6_j1, z_cond, cond_true, hw', z_rest_bool]
  · have hfA : FewI A := hfew A (by simp)
    have hfX : FewI [x, y] := hfew [x, y] (by simp)
    have lx := hfX.2 x (by simp)
    have ly := hfX.2 y (by simp)
    obtain ⟨b, H3, h4, f3, t3⟩ := twin_ok K (by omega) (d + 19) H2 hv2 hfA
    have f13 := Frame.trans f12 f3
    obtain ⟨x9, H4, h5, o4, f4, _⟩ := (Own.nil H3.size H3).append (Nat.le_refl _) (hu.fr f13) (by_ := 8) (roomy_small (by simp [intsL]; omega))
    rw [List.nil_append] at o4
    have f14 := Frame.trans f13 f4
    obtain ⟨x11, H5, h6, o5, f5, _⟩ := (Own.nil H4.size H4).append (Nat.le_refl _) (hw.fr f14) (by_ := 8) (roomy_small (by simp [intsL]; omega))
    rw [List.nil_append] at o5
    have f15 := Frame.trans f14 f5
    have t5 := (t3.fr f4).fr f5
    obtain ⟨H6, h7, f6⟩ := gnorm_ok K (by omega) (d + 8) H5 t5.ints (o4.arr.fr f5) sx
    rw [show d + 8 + 12 = d + 20 from rfl] at h7
    have t6 := t5.fr f6
    obtain ⟨H7, h8, f7⟩ := gdot_ok K (by omega) (d + 9) H6 t6.ints ((o4.arr.fr f5).fr f6) (o5.arr.fr f6) sx sy
    rw [show d + 9 + 11 = d + 20 from rfl] at h8
    have f17 := Frame.trans f15 (Frame.trans f6 f7)
    have t7 := t6.fr f7
    have h9 := kept_ok K (by omega) (d + 18) H7 (IsRowsC.fr hv f17) t7 hfA
    rw [show d + 18 + 2 = d + 20 from rfl] at h9
    obtain ⟨p, H8, h10, o8, f8, _, _⟩ := z_lay2 (H := H7) (lo := H7.size) (Nat.le_refl _) (.slice nilSl) (.slice nilSl) hu.flat hw.flat
    obtain ⟨q, H9, h11, o9, f9, _, _⟩ := z_lay2 (H := H8) (lo := H8.size) (Nat.le_refl _) (.slice nilSl) (.slice nilSl) o4.arr.flat o5.arr.flat
    have f19 := Frame.trans f17 (Frame.trans f8 f9)
    have f59 := Frame.trans f6 (Frame.trans f7 (Frame.trans f8 f9))
    have hp : IsInts2 H9 p [x, y] := IntsW.to (ws := [u, w]) ⟨o8.arr.fr f9, rfl, fun i w' r hw1 hr => by
      match i with
      | 0 => simp at hw1 hr; subst hw1 hr; exact hu.fr f19
      | 1 => simp at hw1 hr; subst hw1 hr; exact hw.fr f19
      | n + 2 => simp at hw1⟩
    have hq : IsInts2 H9 q [x, y] := IntsW.to (ws := [x9, x11]) ⟨o9.arr, rfl, fun i w' r hw1 hr => by
      match i with
      | 0 => simp at hw1 hr; subst hw1 hr; exact (o4.arr.fr f5).fr f59
      | 1 => simp at hw1 hr; subst hw1 hr; exact o5.arr.fr f59
      | n + 2 => simp at hw1⟩
    have h12 := same7_ok K (by omega) (d + 19) H9 hp hq hfX
    rw [show d + 19 + 1 = d + 20 from rfl] at h12
    obtain ⟨H10, h13⟩ := prods_j3 K hK d H9 (IsRowsC.fr hv f19) (hu.fr f19) (hw.fr f19) sx sy
    refine ⟨H10, ?_⟩
    simp only [h3, z_call, f6_j1, z_cond, cond_false, h4, h5, h6, h7, z_ext0, z_ext1, h8, h9, z_not, Bool.not_true, z_guard, h10, h11, h12]
    exact h13
end Go.Sh.Of


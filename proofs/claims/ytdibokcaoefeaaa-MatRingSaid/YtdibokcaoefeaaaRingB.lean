/- MatRing: what is done to three matrices. -/
import Derived.Test.YtdibokcaoefeaaaStrs
set_option linter.unusedVariables false
set_option linter.unusedSimpArgs false
namespace Go.Sh.Of
open Go Go.Sh

def prodM (A B : List (List Int)) : List (List Int) := if mulE A B = 0 then mulM A B else []
def sumM (A B : List (List Int)) : List (List Int) := if addE A B = 0 then addM A B else []
theorem prodM_good {A B : List (List Int)} (ha : Good A) (hb : Good B) : Good (prodM A B) := by
  unfold prodM
  split
  · rename_i h; exact mulM_good ha hb h
  · exact Good.nil
theorem sumM_good {A B : List (List Int)} (ha : Good A) : Good (sumM A B) := by
  unfold sumM
  split
  · rename_i h; exact addM_good ha h
  · exact Good.nil
theorem prodM_ok {A B : List (List Int)} (h : mulE A B = 0) : prodM A B = mulM A B := if_pos h
theorem sumM_ok {A B : List (List Int)} (h : addE A B = 0) : sumM A B = addM A B := if_pos h
theorem mulE_cols {A B : List (List Int)} (h : mulE A B = 0) : colsOf A = B.length := Decidable.byContradiction fun hn => by
  unfold mulE at h
  rw [if_neg hn] at h
  cases h
theorem addE_size {A B : List (List Int)} (h : addE A B = 0) : A.length = B.length ∧ colsOf A = colsOf B := Decidable.byContradiction fun hn => by
  unfold addE at h
  rw [if_neg hn] at h
  cases h
theorem mul_w (K : Nat) (hK : 1000000 < K) (d : Nat) (H : Heap) {w w' : SV} {A B : List (List Int)} (hv : IsMat H (.agg [w]) A) (hv' : IsMat H (.agg [w']) B) (ha : Good A) (hb : Good B) : ∃ u H', runQ wk tab slow K (d + 20) 9 [.agg [w], .agg [w']] H = some (.tuple [.agg [u], .int .i64 (mulE A B)], H') ∧ Frame H H' ∧ IsMat H' (.agg [u]) (prodM A B) := by
  obtain ⟨r, H1, h1, f1, hm⟩ := mmul_ok K (by omega) (d + 10) H hv hv' ha hb
  obtain ⟨u, rfl⟩ := hm.agg
  exact ⟨u, H1, h1, f1, hm.mat⟩
theorem add_w (K : Nat) (hK : 1000000 < K) (d : Nat) (H : Heap) {w w' : SV} {A B : List (List Int)} (hv : IsMat H (.agg [w]) A) (hv' : IsMat H (.agg [w']) B) (ha : Good A) (hb : Good B) : ∃ u H', runQ wk tab slow K (d + 20) 12 [.agg [w], .agg [w']] H = some (.tuple [.agg [u], .int .i64 (addE A B)], H') ∧ Frame H H' ∧ IsMat H' (.agg [u]) (sumM A B) := by
  obtain ⟨r, H1, h1, f1, hm⟩ := madd_ok K (by omega) (d + 10) H hv hv' ha hb
  obtain ⟨u, rfl⟩ := hm.agg
  exact ⟨u, H1, h1, f1, hm.mat⟩
theorem trans_w (K : Nat) (hK : 1000000 < K) (d : Nat) (H : Heap) {w : SV} {A : List (List Int)} (hv : IsMat H (.agg [w]) A) (ha : Good A) : ∃ u H', runQ wk tab slow K (d + 20) 11 [.agg [w]] H = some (.agg [u], H') ∧ Frame H H' ∧ IsMat H' (.agg [u]) (trM A) := by
  obtain ⟨r, H1, h1, f1, hm⟩ := mtrans_ok K (by omega) (d + 17) H hv ha
  obtain ⟨u, rfl⟩ := hm.agg
  exact ⟨u, H1, h1, f1, hm.mat⟩
theorem same_w (K : Nat) (hK : 1000000 < K) (d : Nat) (H : Heap) {w w' : SV} {A B : List (List Int)} (hv : IsMat H (.agg [w]) A) (hv' : IsMat H (.agg [w']) B) (ha : Good A) (hb : Good B) : runQ wk tab slow K (d + 20) 10 [.agg [w], .agg [w']] H = some (.bool (decide (A = B)), H) :=
  msame_ok K (by omega) (d + 17) H hv hv' ha hb
theorem ring_j10 (K : Nat) (hK : 1000000 < K) (d : Nat) (H : Heap) {w : SV} {A : List (List Int)} (hv : IsMat H (.agg [w]) A) (ha : Good A) : ∃ H', f3_j10 slow K (runQ wk tab slow K (d + 20)) (.box [w]) (.bool false) H = some (.bool true, H') := by
  obtain ⟨u, H1, h1, f1, m1⟩ := trans_w K hK d H hv ha
  obtain ⟨u2, H2, h2, f2, m2⟩ := trans_w K hK d H1 m1 (trM_good ha)
  have h3 := same_w K hK d H2 m2 (hv.fr (Frame.trans f1 f2)) (trM_good (trM_good ha)) ha
  refine ⟨H2, ?_⟩
  simp only [f3_j10, z_cond, cond_false, z_lload1, h1, z_call, h2, h3, z_rest_bool]
  rw [decide_eq_true (ring_twice ha)]
theorem ring_j9 (K : Nat) (hK : 1000000 < K) (d : Nat) (H : Heap) {wa wb wc wab : SV} {A B C : List (List Int)} (hva : IsMat H (.agg [wa]) A) (hvb : IsMat H (.agg [wb]) B) (hvc : IsMat H (.agg [wc]) C) (hvab : IsMat H (.agg [wab]) (prodM A B)) (ha : Good A) (hb : Good B) (hc : Good C) :
    ∃ H', f3_j9 slow K (runQ wk tab slow K (d + 20)) (.box [wa]) (.box [wb]) (.box [wc]) (.box [wab]) (.int .i64 (mulE A B)) H = some (.bool true, H') := by
  obtain ⟨us, H1, h1, f1, m1⟩ := add_w K hK d H hvb hvc hb hc
  have gs := sumM_good (B := C) hb
  obtain ⟨up, H2, h2, f2, m2⟩ := mul_w K hK d H1 (hva.fr f1) m1 ha gs
  have g12 := Frame.trans f1 f2
  have gp := prodM_good ha gs
  obtain ⟨uac, H3, h3, f3, m3⟩ := mul_w K hK d H2 (hva.fr g12) (hvc.fr g12) ha hc
  have g13 := Frame.trans g12 f3
  have gac := prodM_good ha hc
  have gab := prodM_good ha hb
  obtain ⟨uq, H4, h4, f4, m4⟩ := add_w K hK d H3 (hvab.fr g13) m3 gab gac
  have g14 := Frame.trans g13 f4
  have gq := sumM_good (B := prodM A C) gab
  obtain ⟨H5, h5⟩ := ring_j10 K hK d H4 (hva.fr g14) ha
  have h6 := same_w K hK d H4 (m2.fr (Frame.trans f3 f4)) m4 gp gq
  refine ⟨H5, ?_⟩
  simp only [f3_j9, z_lload1, h1, z_call, z_ext0, z_ext1, z_bst1, h2, h3, h4, z_eql, z_guard]
  by_cases e1 : mulE A B = 0
  · by_cases e2 : addE B C = 0
    · by_cases e3 : mulE A (sumM B C) = 0
      · by_cases e4 : mulE A C = 0
        · by_cases e5 : addE (prodM A B) (prodM A C) = 0
          · have hs := addE_size e2
            have hd : prodM A (sumM B C) = sumM (prodM A B) (prodM A C) := by
              rw [prodM_ok e3, sumM_ok e5, sumM_ok e2, prodM_ok e1, prodM_ok e4]
              exact ring_dist ha (mulE_cols e1) hs.1 hs.2
            rw [decide_eq_true hd] at h6
            simp only [e1, e2, e3, e4, e5, beq_self_eq_true, cond_true, h6, z_call, z_not, Bool.not_true, h5]
          · simp only [e1, e2, e3, e4, beq_self_eq_true, cond_true, beq_eq_false_iff_ne.2 e5, cond_false, h5]
        · simp only [e1, e2, e3, beq_self_eq_true, cond_true, beq_eq_false_iff_ne.2 e4, cond_false, h5]
      · simp only [e1, e2, beq_self_eq_true, cond_true, beq_eq_false_iff_ne.2 e3, cond_false, h5]
    · simp only [e1, beq_self_eq_true, cond_true, beq_eq_false_iff_ne.2 e2, cond_false, h5]
  · simp only [beq_eq_false_iff_ne.2 e1, cond_false, h5]
theorem ring_j5 (K : Nat) (hK : 1000000 < K) (d : Nat) (H : Heap) {wa wb wc wab : SV} {A B C : List (List Int)} (hva : IsMat H (.agg [wa]) A) (hvb : IsMat H (.agg [wb]) B) (hvc : IsMat H (.agg [wc]) C) (hvab : IsMat H (.agg [wab]) (prodM A B)) (ha : Good A) (hb : Good B) (hc : Good C) :
    ∃ H', f3_j5 slow K (runQ wk tab slow K (d + 20)) (.box [wa]) (.box [wb]) (.box [wc]) (.box [wab]) (.int .i64 (mulE A B)) (.bool false) H = some (.bool true, H') := by
  simp only [f3_j5, z_cond, cond_false, z_eql]
  by_cases e1 : mulE A B = 0
  · obtain ⟨u1, H1, h1, f1, m1⟩ := trans_w K hK d H hvb hb
    obtain ⟨u2, H2, h2, f2, m2⟩ := trans_w K hK d H1 (hva.fr f1) ha
    have g12 := Frame.trans f1 f2
    obtain ⟨u3, H3, h3, f3, m3⟩ := mul_w K hK d H2 (m1.fr f2) m2 (trM_good hb) (trM_good ha)
    have g13 := Frame.trans g12 f3
    have hbe : (mulE A B == 0) = true := beq_iff_eq.2 e1
    simp only [hbe, cond_true, z_lload1, h1, z_call, h2, h3, z_ext0, z_ext1, z_bst1, z_eql, z_guard]
    by_cases e2 : mulE (trM B) (trM A) = 0
    · obtain ⟨u4, H4, h4, f4, m4⟩ := trans_w K hK d H3 (hvab.fr g13) (prodM_good ha hb)
      have g14 := Frame.trans g13 f4
      have h5 := same_w K hK d H4 m4 (m3.fr f4) (trM_good (prodM_good ha hb)) (prodM_good (trM_good hb) (trM_good ha))
      have hd : trM (prodM A B) = prodM (trM B) (trM A) := by
        rw [prodM_ok e2, prodM_ok e1]
        exact ring_trans ha hb (mulE_cols e1)
      rw [decide_eq_true hd] at h5
      obtain ⟨H5, h6⟩ := ring_j9 K hK d H4 (hva.fr g14) (hvb.fr g14) (hvc.fr g14) (hvab.fr g14) ha hb hc
      refine ⟨H5, ?_⟩
      have hbe2 : (mulE (trM B) (trM A) == 0) = true := beq_iff_eq.2 e2
      simp only [hbe2, cond_true, h4, z_call, h5, z_not, Bool.not_true, f3_j7, z_cond, cond_false, h6]
    · obtain ⟨H5, h6⟩ := ring_j9 K hK d H3 (hva.fr g13) (hvb.fr g13) (hvc.fr g13) (hvab.fr g13) ha hb hc
      refine ⟨H5, ?_⟩
      simp only [beq_eq_false_iff_ne.2 e2, f3_j7, z_cond, cond_false, h6]
  · obtain ⟨H5, h6⟩ := ring_j9 K hK d H hva hvb hvc hvab ha hb hc
    refine ⟨H5, ?_⟩
    simp only [beq_eq_false_iff_ne.2 e1, cond_false, h6]
theorem ring_j3 (K : Nat) (hK : 1000000 < K) (d : Nat) (H : Heap) {wa wb wc : SV} {A B C : List (List Int)} (hva : IsMat H (.agg [wa]) A) (hvb : IsMat H (.agg [wb]) B) (hvc : IsMat H (.agg [wc]) C) (ha : Good A) (hb : Good B) (hc : Good C) :
    ∃ H', f3_j3 slow K (runQ wk tab slow K (d + 20)) (.box [wa]) (.box [wb]) (.box [wc]) (.bool false) H = some (.bool true, H') := by
  obtain ⟨u1, H1, h1, f1, m1⟩ := mul_w K hK d H hva hvb ha hb
  obtain ⟨u2, H2, h2, f2, m2⟩ := mul_w K hK d H1 (hvb.fr f1) (hvc.fr f1) hb hc
  have g12 := Frame.trans f1 f2
  have gab := prodM_good ha hb
  have gbc := prodM_good hb hc
  obtain ⟨u3, H3, h3, f3, m3⟩ := mul_w K hK d H2 (m1.fr f2) (hvc.fr g12) gab hc
  have g13 := Frame.trans g12 f3
  obtain ⟨u4, H4, h4, f4, m4⟩ := mul_w K hK d H3 (hva.fr g13) (m2.fr f3) ha gbc
  have g14 := Frame.trans g13 f4
  have m1' := m1.fr (Frame.trans f2 (Frame.trans f3 f4))
  have h6 := same_w K hK d H4 (m3.fr f4) m4 (prodM_good gab hc) (prodM_good ha gbc)
  obtain ⟨H5, h5⟩ := ring_j5 K hK d H4 (hva.fr g14) (hvb.fr g14) (hvc.fr g14) m1' ha hb hc
  refine ⟨H5, ?_⟩
  simp only [f3_j3, z_cond, cond_false, z_lload1, h1, z_call, z_ext0, z_ext1, z_bst1, h2, h3, h4, z_eql, z_guard]
  by_cases e1 : mulE A B = 0
  · have b1 : (mulE A B == 0) = true := beq_iff_eq.2 e1
    by_cases e2 : mulE B C = 0
    · have b2 : (mulE B C == 0) = true := beq_iff_eq.2 e2
      by_cases e3 : mulE (prodM A B) C = 0
      · have b3 : (mulE (prodM A B) C == 0) = true := beq_iff_eq.2 e3
        by_cases e4 : mulE A (prodM B C) = 0
        · have b4 : (mulE A (prodM B C) == 0) = true := beq_iff_eq.2 e4
          have hd : prodM (prodM A B) C = prodM A (prodM B C) := by
            rw [prodM_ok e3, prodM_ok e4, prodM_ok e1, prodM_ok e2]
            exact ring_assoc ha (mulE_cols e1) (mulE_cols e2)
          rw [decide_eq_true hd] at h6
          simp only [b1, b2, b3, b4, cond_true, h6, z_call, z_not, Bool.not_true, h5]
        · simp only [b1, b2, b3, cond_true, beq_eq_false_iff_ne.2 e4, cond_false, h5]
      · simp only [b1, b2, cond_true, beq_eq_false_iff_ne.2 e3, cond_false, h5]
    · simp only [b1, cond_true, beq_eq_false_iff_ne.2 e2, cond_false, h5]
  · simp only [beq_eq_false_iff_ne.2 e1, cond_false, h5]
theorem ring_ok (K : Nat) (hK : 1000000 < K) (d : Nat) (H : Heap) {va vb vc : SV} {S T U : List (List (List UInt8))} (hva : IsTexts H va S) (hvb : IsTexts H vb T) (hvc : IsTexts H vc U) (la : TextsOk K S) (lb : TextsOk K T) (lc : TextsOk K U) :
    ∃ H', runQ wk tab slow K (d + 21) 3 [va, vb, vc] H = some (.bool true, H') := by
  have hw : ∀ H, runQ wk tab slow K (d + 20) 6 [] H = some (.bool true, H) := fun H => rfl
  show ∃ H', f3 slow K (runQ wk tab slow K (d + 20)) va vb vc H = _
  obtain ⟨v, H1, h1, ho, f1, _, _⟩ := z_lay3 (H := H) (lo := H.size) (Nat.le_refl _) (.slice nilSl) (.slice nilSl) (.slice nilSl) hva.flat hvb.flat hvc.flat
  simp only [f3, hw, z_call, z_not, Bool.not_true, z_guard, cond_false, h1]
  rcases beyond_ok K (by omega) (d + 19) H1 (Ts := [S, T, U]) ho.arr (by simp) rfl (fun i u T' hu hT => by
    match i with
    | 0 => simp at hu hT; subst hu hT; exact hva.fr f1
    | 1 => simp at hu hT; subst hu hT; exact hvb.fr f1
    | 2 => simp at hu hT; subst hu hT; exact hvc.fr f1
    | n + 3 => simp at hu) with h2 | ⟨hfew, h2⟩
  · refine ⟨H1, ?_⟩
    simp only [h2, z_call, f3_j1, z_cond, cond_true, hw, z_rest_bool]
  · have fa := hfew S (by simp)
    have fb := hfew T (by simp)
    have fc := hfew U (by simp)
    obtain ⟨w1, H2, h3, f2, m1⟩ := lshaped_ok K hK (d + 11) H1 (hva.fr f1) la (by have := fa.1; omega)
    obtain ⟨w2, H3, h4, f3, m2⟩ := lshaped_ok K hK (d + 11) H2 (hvb.fr (Frame.trans f1 f2)) lb (by have := fb.1; omega)
    obtain ⟨w3, H4, h5, f4, m3⟩ := lshaped_ok K hK (d + 11) H3 (hvc.fr (Frame.trans f1 (Frame.trans f2 f3))) lc (by have := fc.1; omega)
    have stop : f3_j3 slow K (runQ wk tab slow K (d + 20)) (.box [w1]) (.box [w2]) (.box [w3]) (.bool true) H4 = some (.bool true, H4) := rfl
    simp only [h2, z_call, f3_j1, z_cond, cond_false, h3, h4, h5, z_ext0, z_ext1, z_bst1, z_not, z_guard]
    cases b1 : parseE S == 0 with
    | false => exact ⟨H4, by simp only [Bool.not_false, cond_true, stop]⟩
    | true =>
      cases b2 : parseE T == 0 with
      | false => exact ⟨H4, by simp only [Bool.not_true, cond_false, Bool.not_false, cond_true, stop]⟩
      | true =>
        cases b3 : parseE U == 0 with
        | false => exact ⟨H4, by simp only [Bool.not_true, cond_false, Bool.not_false, cond_true, stop]⟩
        | true =>
          obtain ⟨H5, h6⟩ := ring_j3 K hK d H4 (m1.fr (Frame.trans f3 f4)) (m2.fr f4) m3 (parseM_good S) (parseM_good T) (parseM_good U)
          exact ⟨H5, by simp only [Bool.not_true, cond_false, h6]⟩
end Go.Sh.Of

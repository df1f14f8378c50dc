/- Contracts of gram: Det, Change. -/
import Derived.Test.YtkgbokkeemjkkaaDot
set_option linter.unusedVariables false
set_option linter.unusedSimpArgs false
namespace Go.Sh.Of
open Go Go.Sh

/-! ### Det -/
theorem gdet_run (K d : Nat) (H : Heap) (a : SV) : runQ wk tab slow K (d + 21) 22 [a] H = f22 slow K (runQ wk tab slow K (d + 20)) a H := Eq.trans rfl rfl
theorem gdet_ok (K : Nat) (hK : 1000000 < K) (d : Nat) (H : Heap) {v : SV} {A : List (List Int)} (hv : IsInts2 H v A) :
    ∃ x H', runQ wk tab slow K (d + 21) 22 [v] H = some (.tuple [.agg [x], .int .i64 (chkE A)], H') ∧ Frame H H' ∧ IsNat H' (.agg [x]) (if chkE A = 0 then (det A.length (ent A)).natAbs else 0) := by
  rw [gdet_run]
  obtain ⟨H1, h1, f1⟩ := chk_ok K (by omega) (d + 11) H hv
  rw [show d + 11 + 9 = d + 20 from rfl] at h1
  by_cases e : chkE A = 0
  · have b : ((0 : Int) != 0) = false := rfl
    have hs := (chk_form.1 e).sq
    rw [e] at h1
    obtain ⟨w, H2, h2, f2, m2⟩ := mof_w K hK d H1 (IsRowsC.fr hv f1) hs
    obtain ⟨x, y, H3, h3, f3, n3⟩ := sdet_w K hK d H2 m2 hs
    obtain ⟨z, h4, n4⟩ := zabs_ok K (d + 19) H3 n3
    have n4' := n4
    obtain ⟨z', rfl, _, _⟩ := n4
    refine ⟨z', H3, ?_, Frame.trans f1 (Frame.trans f2 f3), by rw [if_pos e]; exact n4'⟩
    rw [e]
    simp only [f22, h1, z_call, z_neq, b, z_cond, cond_false, h2, z_ext0, z_ext1, z_bst1, z_lload1, h3, z_bst2, z_lload2, h4, z_resc1]
  · have b : (chkE A != 0) = true := by simp [e]
    have hz : ∀ k, slow.build [.slice nilSl] [] [] k = k (.agg [.slice nilSl]) := fun k => z_build0 k _
    refine ⟨.slice nilSl, H1, ?_, f1, by rw [if_neg e]; exact ⟨_, rfl, by rw [digs_zero]; exact Arr.nil H1, rfl⟩⟩
    simp only [f22, h1, z_call, z_neq, b, z_cond, cond_true, hz, z_bst1, z_resc1, z_rest_int]
/-! ### Products that are not too long -/
theorem errFrom_zero {f g : Nat → Int} {b : Nat} : ∀ (m x : Nat) (s : Int), (∀ y, x ≤ y → y < x + m → (f y * g y).natAbs ≤ b) → s.natAbs + m * b < 2 ^ 4096 → errFrom f g x m s = 0
  | 0, x, s, _, _ => rfl
  | m + 1, x, s, h, hs => by
    have h1 := h x (Nat.le_refl _) (by omega)
    have h2 : (s + f x * g x).natAbs ≤ s.natAbs + b := Nat.le_trans (Int.natAbs_add_le _ _) (Nat.add_le_add_left h1 _)
    have e : (m + 1) * b = m * b + b := Nat.succ_mul m b
    rw [e] at hs
    generalize hB : 2 ^ 4096 = BB at hs
    unfold errFrom
    rw [hB, if_pos (by omega), if_pos (by omega)]
    have := errFrom_zero (f := f) (g := g) (b := b) m (x + 1) (s + f x * g x) (fun y h3 h4 => h y (by omega) (by omega)) (by rw [hB]; omega)
    exact this
def EntLe (A : List (List Int)) (b : Nat) : Prop := ∀ i j, i < A.length → j < colsOf A → (ent A i j).natAbs ≤ b
theorem mulE_zero {A B : List (List Int)} {p q : Nat} (hA : EntLe A p) (hB : EntLe B q) (hc : colsOf A = B.length) (h : colsOf A * (p * q) < 2 ^ 4096) : mulE A B = 0 := by
  unfold mulE
  rw [if_pos hc]
  have key : ∀ i j, i < A.length → j < colsOf B → dotErr A B i j = 0 := fun i j hi hj => errFrom_zero (b := p * q) (colsOf A) 0 0 (fun y _ hy => by
    rw [Int.natAbs_mul]
    exact Nat.mul_le_mul (hA i y hi (by omega)) (hB y j (by omega) hj)) (by rw [Int.natAbs_zero, Nat.zero_add]; exact h)
  have inn : ∀ (i m j : Nat), i < A.length → j + m = colsOf B → stIn (dotErr A B) i j m 0 = 0 := by
    intro i m
    induction m with
    | zero => intro j _ _; rfl
    | succ m ih =>
      intro j hi hj
      show stIn (dotErr A B) i (j + 1) m (if (0 : Int) = 0 then dotErr A B i j else 0) = 0
      rw [if_pos rfl, key i j hi (by omega)]
      exact ih (j + 1) hi (by omega)
  have out : ∀ (m i : Nat), i + m = A.length → stOut (dotErr A B) (colsOf B) i m 0 = 0 := by
    intro m
    induction m with
    | zero => intro i _; rfl
    | succ m ih =>
      intro i hi
      show stOut (dotErr A B) (colsOf B) (i + 1) m (stIn (dotErr A B) i 0 (colsOf B) 0) = 0
      rw [inn i (colsOf B) 0 (by omega) (by omega)]
      exact ih (i + 1) (by omega)
  exact out A.length 0 (by omega)
theorem sumTo_sumZ (F : Nat → Int) : ∀ n : Nat, sumTo F n = sumZ n F
  | 0 => rfl
  | n + 1 => by
    show sumTo F n + F n = sumZ n F + F n
    rw [sumTo_sumZ F n]
theorem dotE_mulX {A B : List (List Int)} (i j : Nat) : dotE A B i j = mulX (colsOf A) (ent A) (ent B) i j := by
  unfold dotE
  rw [dot_sum, sumTo_sumZ]
  rfl
/-! ### Change -/
def chgM (A U : List (List Int)) : List (List Int) := mulM (mulM U A) (trM U)
def chgE (A U : List (List Int)) : Int :=
  if chkE A ≠ 0 then chkE A else if U.length ≠ A.length then 5 else if colsOf U ≠ A.length then 5 else if sqE U ≠ 0 then sqE U else if detR U = 0 then 50 else
    if mulE U A ≠ 0 then 3 else if mulE (mulM U A) (trM U) ≠ 0 then 3 else if allFit (chgM A U) then (if outB (fun i j => smallB (ent (chgM A U) i j)) (chgM A U) 0 then 0 else 3) else 3
theorem nil_ints (H : Heap) : IsInts2 H (.slice nilSl) [] := ⟨[], Arr.nil H, rfl, fun i w cs hw => by simp at hw⟩
theorem detR_small' {R : List (List Int)} (hg : Good R) (h : sqE R = 0) : (detR R).natAbs < 2 ^ 4096 := by
  have hw : wideB R = false ∧ R.length = colsOf R := by
    unfold sqE at h
    split at h
    · cases h
    · rename_i h2
      cases hb : wideB R with
      | true => rw [hb] at h; cases h
      | false => exact ⟨rfl, Decidable.byContradiction fun h3 => h2 h3⟩
  have hb := wide_bd hw.1
  rw [← hw.2, Nat.min_self] at hb
  rw [detR_det' hw.2]
  by_cases h0 : R.length = 0
  · rw [h0]
    exact one_big
  · refine hb.small (by omega) (s := R.length) (by omega) ?_
    rw [hb.hX]
    exact det_abs (Nat.le_refl _) fun i k hi hk => hb.ent i k hi hk
theorem chg_run (K d : Nat) (H : Heap) (a u : SV) : runQ wk tab slow K (d + 21) 21 [a, u] H = f21 slow K (runQ wk tab slow K (d + 20)) a u H := Eq.trans rfl rfl
theorem chg_ok (K : Nat) (hK : 1000000 < K) (d : Nat) (H : Heap) {v w : SV} {A U : List (List Int)} (hv : IsInts2 H v A) (hu : IsMat H (.agg [w]) U) (hg : Good U) :
    ∃ out H', runQ wk tab slow K (d + 21) 21 [v, .agg [w]] H = some (.tuple [out, .int .i64 (chgE A U)], H') ∧ Frame H H' ∧ IsInts2 H' out (if chgE A U = 0 then chgM A U else []) := by
  rw [chg_run]
  obtain ⟨H1, h1, f1⟩ := chk_ok K (by omega) (d + 11) H hv
  rw [show d + 11 + 9 = d + 20 from rfl] at h1
  have stop : ∀ {e : Int} (H' : Heap), chgE A U = e → e ≠ 0 → IsInts2 H' (.slice nilSl) (if chgE A U = 0 then chgM A U else []) := fun H' he hn => by
    rw [if_neg (by rw [he]; exact hn)]
    exact nil_ints H'
  by_cases e0 : chkE A = 0
  · have b0 : (chkE A != 0) = false := by simp [e0]
    have hs := (chk_form.1 e0).sq
    have h8 := hs.n8
    have hsz := msize_ok K (d + 19) H1 (hu.fr f1)
    rw [show d + 19 + 1 = d + 20 from rfl] at hsz
    have c4 : ∀ k, slow.neq (.int .i64 (chkE A)) (.int .i64 0) k = k (.bool false) := fun k => by rw [z_neq, b0]
    simp only [f21, z_bbox, h1, z_call, c4, z_cond, cond_false, ints_len (IsRowsC.fr hv f1), z_lload1, hsz, z_ext0, z_ext1, n_neq, z_guard]
    have five : f21_j2 slow K (runQ wk tab slow K (d + 20)) v (.box [w]) (.bool true) H1 = some (.tuple [.slice nilSl, .int .i64 5], H1) := rfl
    by_cases e1 : U.length = A.length
    · have n1 : ¬ U.length ≠ A.length := fun h => h e1
      rw [decide_eq_false n1, cond_false]
      by_cases e2 : colsOf U = A.length
      · have n2 : ¬ colsOf U ≠ A.length := fun h => h e2
        rw [decide_eq_false n2]
        obtain ⟨r, H2, h2, f2, n2'⟩ := det_ok K (by omega) (d + 11) H1 (hu.fr f1) hg hg.big hg.rows (fun r hr => by have := hg.rect r hr; omega) hg.c16
        rw [show d + 11 + 9 = d + 20 from rfl] at h2
        by_cases e3 : sqE U = 0
        · have b3 : (sqE U != 0) = false := by simp [e3]
          rw [if_pos e3] at n2'
          have hds := detR_small' hg e3
          have h3 := zsign_ok K (d + 17) H2 n2' hds
          rw [show d + 17 + 3 = d + 20 from rfl] at h3
          obtain ⟨dl, rfl, _, _⟩ := n2'
          have F2 := Frame.trans f1 f2
          by_cases e4 : detR U = 0
          · have he : chgE A U = 50 := by unfold chgE; rw [if_neg (fun h => h e0), if_neg n1, if_neg n2, if_neg (fun h => h e3), if_pos e4]
            refine ⟨.slice nilSl, H2, ?_, F2, stop H2 he (by decide)⟩
            have b4 : (signZ (detR U) == 0) = true := by rw [sign_zero, decide_eq_true e4]
            simp only [f21_j2, z_cond, cond_false, z_lload1, h2, z_call, z_ext0, z_ext1, z_bst2, z_neq, b3, z_lload2, h3, z_eql, b4, cond_true, he]
          · have b4 : (signZ (detR U) == 0) = false := by rw [sign_zero, decide_eq_false e4]
            obtain ⟨m, H3, h4, f3, m3⟩ := mof_w K hK d H2 (IsRowsC.fr hv F2) hs
            have F3 := Frame.trans F2 f3
            have gA := hs.good
            obtain ⟨x, H4, h5, f4, m4⟩ := mmul_ok K (by omega) (d + 10) H3 (hu.fr F3) m3 hg gA
            rw [show d + 10 + 10 = d + 20 from rfl] at h5
            have F4 := Frame.trans F3 f4
            have m4' := m4.mat
            obtain ⟨xw, rfl, _⟩ := m4'
            by_cases e5 : mulE U A = 0
            · have b5 : (mulE U A != 0) = false := by simp [e5]
              have gP := mulM_good hg gA e5
              have mP := m4.mat
              rw [if_pos e5] at mP
              obtain ⟨ut, H5, h6, f5, m5⟩ := mtrans_ok K (by omega) (d + 17) H4 (hu.fr F4) hg
              rw [show d + 17 + 3 = d + 20 from rfl] at h6
              have F5 := Frame.trans F4 f5
              obtain ⟨y, H6, h7, f6, m6⟩ := mmul_ok K (by omega) (d + 10) H5 (mP.fr f5) m5.mat gP (trM_good hg)
              rw [show d + 10 + 10 = d + 20 from rfl] at h7
              have F6 := Frame.trans F5 f6
              have m6' := m6.mat
              have gQ : Good (if mulE (mulM U A) (trM U) = 0 then mulM (mulM U A) (trM U) else []) := by
                split
                · rename_i h; exact mulM_good gP (trM_good hg) h
                · exact Good.nil
              obtain ⟨out, H7, h8', f7, i7, j7⟩ := mi64_ok K (by omega) (d + 17) H6 m6' gQ
              rw [show d + 17 + 3 = d + 20 from rfl] at h8'
              have F7 := Frame.trans F6 f7
              obtain ⟨yw, rfl, _⟩ := m6'
              by_cases e6 : mulE (mulM U A) (trM U) = 0
              · have b6 : (mulE (mulM U A) (trM U) != 0) = false := by simp [e6]
                have eQ : (if mulE (mulM U A) (trM U) = 0 then mulM (mulM U A) (trM U) else []) = chgM A U := if_pos e6
                rw [eQ] at gQ h8' i7 j7
                cases e7 : allFit (chgM A U) with
                | true =>
                  have iq := i7 e7
                  have h9 : runQ wk tab slow K (d + 20) 42 [out, .fn 59 [] []] H7 = some (.bool (outB (fun i j => smallB (ent (chgM A U) i j)) (chgM A U) 0), H7) := each_pure K (d + 19) H7 iq (fun i j r z hr hz => by
                    show f59 slow K (runQ wk tab slow K (d + 18)) (i64 i) (i64 j) (.int .i64 z) H7 = _
                    have := small_ok K (d + 17) H7 z
                    simp only [f59, this, z_call, z_rest_bool, ent_of hr hz]) (by have := gQ.rows; omega) (fun r hr => by
                      have h0 : chgM A U ≠ [] := fun e => by rw [e] at hr; cases hr
                      have := gQ.rect r hr
                      have := (gQ.cols h0).2
                      omega)
                  cases e8 : outB (fun i j => smallB (ent (chgM A U) i j)) (chgM A U) 0 with
                  | true =>
                    have he : chgE A U = 0 := by unfold chgE; rw [if_neg (fun h => h e0), if_neg n1, if_neg n2, if_neg (fun h => h e3), if_neg e4, if_neg (fun h => h e5), if_neg (fun h => h e6), e7, e8]; rfl
                    obtain ⟨ws, hw⟩ := IntsW.of iq
                    refine ⟨out, H7, ?_, F7, by rw [if_pos he]; exact iq⟩
                    rw [e8] at h9
                    rw [e7] at h8'
                    simp only [f21_j2, z_cond, cond_false, z_lload1, h2, z_call, z_ext0, z_ext1, z_bst2, z_neq, b3, z_lload2, h3, z_eql, b4, h4, z_bst1, h5, b5, h6, h7, h8', b6, z_guard, z_not, Bool.not_true, h9, f21_j7, z_rest hw.1.good, he]
                  | false =>
                    have he : chgE A U = 3 := by unfold chgE; rw [if_neg (fun h => h e0), if_neg n1, if_neg n2, if_neg (fun h => h e3), if_neg e4, if_neg (fun h => h e5), if_neg (fun h => h e6), e7, e8]; rfl
                    refine ⟨.slice nilSl, H7, ?_, F7, stop H7 he (by decide)⟩
                    rw [e8] at h9
                    rw [e7] at h8'
                    simp only [f21_j2, z_cond, cond_false, z_lload1, h2, z_call, z_ext0, z_ext1, z_bst2, z_neq, b3, z_lload2, h3, z_eql, b4, h4, z_bst1, h5, b5, h6, h7, h8', b6, z_guard, z_not, Bool.not_true, Bool.not_false, cond_true, h9, f21_j7, he]
                | false =>
                  have he : chgE A U = 3 := by unfold chgE; rw [if_neg (fun h => h e0), if_neg n1, if_neg n2, if_neg (fun h => h e3), if_neg e4, if_neg (fun h => h e5), if_neg (fun h => h e6), e7]; rfl
                  refine ⟨.slice nilSl, H7, ?_, F7, stop H7 he (by decide)⟩
                  rw [e7] at h8'
                  simp only [f21_j2, z_cond, cond_false, z_lload1, h2, z_call, z_ext0, z_ext1, z_bst2, z_neq, b3, z_lload2, h3, z_eql, b4, h4, z_bst1, h5, b5, h6, h7, h8', b6, z_guard, z_not, Bool.not_false, cond_true, f21_j7, he]
              · have b6 : (mulE (mulM U A) (trM U) != 0) = true := by simp [e6]
                have he : chgE A U = 3 := by unfold chgE; rw [if_neg (fun h => h e0), if_neg n1, if_neg n2, if_neg (fun h => h e3), if_neg e4, if_neg (fun h => h e5), if_pos e6]
                refine ⟨.slice nilSl, H7, ?_, F7, stop H7 he (by decide)⟩
                simp only [f21_j2, z_cond, cond_false, z_lload1, h2, z_call, z_ext0, z_ext1, z_bst2, z_neq, b3, z_lload2, h3, z_eql, b4, h4, z_bst1, h5, b5, h6, h7, h8', b6, z_guard, cond_true, f21_j7, he]
            · have b5 : (mulE U A != 0) = true := by simp [e5]
              have he : chgE A U = 3 := by unfold chgE; rw [if_neg (fun h => h e0), if_neg n1, if_neg n2, if_neg (fun h => h e3), if_neg e4, if_pos e5]
              refine ⟨.slice nilSl, H4, ?_, F4, stop H4 he (by decide)⟩
              simp only [f21_j2, z_cond, cond_false, z_lload1, h2, z_call, z_ext0, z_ext1, z_bst2, z_neq, b3, z_lload2, h3, z_eql, b4, h4, z_bst1, h5, b5, cond_true, he]
        · have b3 : (sqE U != 0) = true := by simp [e3]
          have he : chgE A U = sqE U := by unfold chgE; rw [if_neg (fun h => h e0), if_neg n1, if_neg n2, if_pos e3]
          obtain ⟨dl, rfl, _, _⟩ := n2'
          refine ⟨.slice nilSl, H2, ?_, Frame.trans f1 f2, stop H2 he e3⟩
          simp only [f21_j2, z_cond, cond_false, z_lload1, h2, z_call, z_ext0, z_ext1, z_bst2, z_neq, b3, cond_true, z_rest_int, he]
      · rw [decide_eq_true (show colsOf U ≠ A.length from e2)]
        have he : chgE A U = 5 := by unfold chgE; rw [if_neg (fun h => h e0), if_neg n1, if_pos e2]
        exact ⟨.slice nilSl, H1, by rw [he]; exact five, f1, stop H1 he (by decide)⟩
    · rw [decide_eq_true (show U.length ≠ A.length from e1), cond_true]
      have he : chgE A U = 5 := by unfold chgE; rw [if_neg (fun h => h e0), if_pos e1]
      exact ⟨.slice nilSl, H1, by rw [he]; exact five, f1, stop H1 he (by decide)⟩
  · have b0 : (chkE A != 0) = true := by simp [e0]
    have he : chgE A U = chkE A := by unfold chgE; rw [if_pos e0]
    refine ⟨.slice nilSl, H1, ?_, f1, stop H1 he e0⟩
    simp only [f21, z_bbox, h1, z_call, z_neq, b0, z_cond, cond_true, z_rest_int, he]
/-! ### What is told is a form -/
theorem chgE_zero {A U : List (List Int)} (h : chgE A U = 0) : chkE A = 0 ∧ U.length = A.length ∧ colsOf U = A.length ∧ sqE U = 0 ∧ detR U ≠ 0 ∧ mulE U A = 0 ∧ mulE (mulM U A) (trM U) = 0 ∧ allFit (chgM A U) = true ∧ outB (fun i j => smallB (ent (chgM A U) i j)) (chgM A U) 0 = true := by
  unfold chgE at h
  by_cases e0 : chkE A = 0
  · rw [if_neg (fun x => x e0)] at h
    by_cases e1 : U.length = A.length
    · rw [if_neg (fun x => x e1)] at h
      by_cases e2 : colsOf U = A.length
      · rw [if_neg (fun x => x e2)] at h
        by_cases e3 : sqE U = 0
        · rw [if_neg (fun x => x e3)] at h
          by_cases e4 : detR U = 0
          · rw [if_pos e4] at h; cases h
          · rw [if_neg e4] at h
            by_cases e5 : mulE U A = 0
            · rw [if_neg (fun x => x e5)] at h
              by_cases e6 : mulE (mulM U A) (trM U) = 0
              · rw [if_neg (fun x => x e6)] at h
                by_cases e7 : allFit (chgM A U) = true
                · rw [if_pos e7] at h
                  by_cases e8 : outB (fun i j => smallB (ent (chgM A U) i j)) (chgM A U) 0 = true
                  · exact ⟨e0, e1, e2, e3, e4, e5, e6, e7, e8⟩
                  · rw [if_neg e8] at h; cases h
                · rw [if_neg e7] at h; cases h
              · rw [if_pos e6] at h; cases h
            · rw [if_pos e5] at h; cases h
        · rw [if_pos e3] at h; exact absurd h e3
      · rw [if_pos e2] at h; cases h
    · rw [if_pos e1] at h; cases h
  · rw [if_pos e0] at h; exact absurd h e0
theorem chgM_ent {A U : List (List Int)} (hs : Sq A) (h1 : U.length = A.length) (h2 : colsOf U = A.length) : (chgM A U).length = A.length ∧ colsOf (chgM A U) = A.length ∧ ∀ i j, i < A.length → j < A.length → ent (chgM A U) i j = chM A.length (ent A) (ent U) i j := by
  have h0 := hs.n0
  have hc := hs.cols
  have lP : (mulM U A).length = A.length := (matOfE_len _ _ _).trans h1
  have cP : colsOf (mulM U A) = A.length := by unfold mulM; rw [colsOf_matOfE (by omega), hc]
  have lT : (trM U).length = A.length := (matOfE_len _ _ _).trans h2
  have cT : colsOf (trM U) = A.length := by unfold trM; rw [colsOf_matOfE (by omega), h1]
  refine ⟨(matOfE_len _ _ _).trans lP, by unfold chgM; rw [show mulM (mulM U A) (trM U) = matOfE (dotE (mulM U A) (trM U)) (mulM U A).length (colsOf (trM U)) from rfl, colsOf_matOfE (by omega), cT], fun i j hi hj => ?_⟩
  rw [show ent (chgM A U) i j = dotE (mulM U A) (trM U) i j from ent_matOfE (by omega) (by omega), dotE_mulX, cP]
  refine sumZ_congr fun t ht => ?_
  rw [show ent (mulM U A) i t = dotE U A i t from ent_matOfE (by omega) (by omega), dotE_mulX, h2, show ent (trM U) t j = ent U j t from ent_matOfE (E := fun i j => ent U j i) (by omega) (by omega)]
  rfl
theorem chg_form {A U : List (List Int)} (hu : Good U) (h : chgE A U = 0) : Form (chgM A U) ∧ (chgM A U).length = A.length ∧ ∀ i j, i < A.length → j < A.length → ent (chgM A U) i j = chM A.length (ent A) (ent U) i j := by
  obtain ⟨e0, e1, e2, e3, e4, e5, e6, e7, e8⟩ := chgE_zero h
  have hF := chk_form.1 e0
  obtain ⟨l, c, he⟩ := chgM_ent hF.sq e1 e2
  have h0 := hF.sq.n0
  have h8 := hF.sq.n8
  have gP := mulM_good hu hF.sq.good e5
  have gQ : Good (chgM A U) := mulM_good gP (trM_good hu) e6
  have hsq : sqB (chgM A U) = true := List.all_eq_true.2 fun r hr => by
    have := gQ.rect r hr
    simp [this, c, l]
  have hS := sq_small (by omega) (by omega) hsq e8
  have hdet : det A.length (ent U) ≠ 0 := by
    rw [detR_det' (by omega), e1] at e4
    exact e4
  refine ⟨⟨hS, fun i j hi hj => ?_, ?_⟩, l, he⟩
  · rw [l] at hi hj
    rw [he i j hi hj, he j i hj hi]
    exact chM_sym hF.sym (ent U) i j hi hj
  · rw [l]
    have hpd : Pd A.length (chM A.length (ent A) (ent U)) := (hF.cor.pd hF.sym).ch hdet
    have := hpd.corner (chM_sym hF.sym (ent U))
    intro k h1 h2
    rw [det_congr (C := chM A.length (ent A) (ent U)) fun i j hi hj => he i j (by omega) (by omega)]
    exact this k h1 h2
end Go.Sh.Of


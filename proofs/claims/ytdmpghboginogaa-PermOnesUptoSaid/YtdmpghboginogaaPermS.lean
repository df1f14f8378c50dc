/- Contracts of the layer perm: the reference's Check, Same. -/
import Derived.Test.YtdmpghboginogaaPermA
set_option linter.unusedVariables false
set_option linter.unusedSimpArgs false
namespace Go.Sh.Of
open Go

theorem alen {H : Heap} {v : SV} {kd : IntKind} {l : List Int} (hv : Arr H v (intsL kd l)) (k : K1) : slow.len v k = k (.int .i64 l.length) := by rw [hv.len]; simp
theorem rcheck_loop (C : CallC) (K : Nat) (H0 : Heap) {v m : SV} {l : List Int} (hv : Arr H0 v (intsL .i64 l)) (hl : l.length ≤ 64) : ∀ (rest : List Int) (i fuel : Nat) (H : Heap), l.drop i = rest → rest.length < fuel → Frame H0 H → Own H0.size H m (marks l.length (l.take i)) →
    ∃ H', slow.loop3 (f21_l2 slow K C) fuel v m (.int .i64 i) H = some (.int .i64 (if ckGo l.length rest (l.take i) then 0 else 180), H') ∧ Frame H0 H'
  | [], i, fuel, H, hd, hf, hfr, ho => by
    obtain ⟨fuel, rfl⟩ : ∃ m, fuel = m + 1 := ⟨fuel - 1, by omega⟩
    have hi : ¬ ((i : Int) < (l.length : Int)) := by
      have := List.drop_eq_nil_iff.1 hd
      omega
    refine ⟨H, ?_, hfr⟩
    rw [z_loop3]
    simp only [f21_l2, alen (hv.fr hfr), z_lss, decide_eq_false hi, z_cond, cond_false, ckGo, if_true]
  | x :: rest, i, fuel, H, hd, hf, hfr, ho => by
    obtain ⟨fuel, rfl⟩ : ∃ m, fuel = m + 1 := ⟨fuel - 1, by omega⟩
    obtain ⟨hx, hd', hlt, htk⟩ := drop_cons hd
    have hi : (i : Int) < (l.length : Int) := by omega
    have hget : (intsL .i64 l)[i]? = some (.int .i64 x) := ints_get hx
    have hv' := hv.fr hfr
    simp only [z_loop3]
    simp only [f21_l2, alen hv', z_lss, decide_eq_true hi, z_cond, z_guard, cond_true, hv'.load hget, z_geq]
    by_cases h0 : x < 0
    · simp only [decide_eq_true h0, cond_true, f21_j4, z_cond]
      simp only [ckGo, if_pos (Or.inl h0)]
      exact ⟨H, rfl, hfr⟩
    · simp only [decide_eq_false h0, cond_false]
      by_cases h1 : x ≥ (l.length : Int)
      · simp only [decide_eq_true h1, cond_true, f21_j4, z_cond]
        simp only [ckGo, if_pos (Or.inr (Or.inl h1))]
        exact ⟨H, rfl, hfr⟩
      · obtain ⟨n, rfl⟩ : ∃ n : Nat, x = n := ⟨x.toNat, by omega⟩
        have hn : n < l.length := by omega
        simp only [decide_eq_false h1, cond_false, ho.arr.load (marks_get hn _)]
        by_cases h2 : (n : Int) ∈ l.take i
        · simp only [decide_eq_true h2, f21_j4, z_cond, cond_true]
          simp only [ckGo, if_pos (Or.inr (Or.inr h2))]
          exact ⟨H, rfl, hfr⟩
        · simp only [decide_eq_false h2, f21_j4, z_cond, cond_false, hv'.load hget]
          obtain ⟨H1, hs, ho1, hfr1, _, _⟩ := ho.store (i := n) (by rw [marks_len]; exact hn) (x := .bool true) rfl .i64
          rw [hs, z_add64 (by omega) (by omega)]
          rw [marks_set hn, ← htk] at ho1
          have e : ((i : Int) + 1) = ((i + 1 : Nat) : Int) := by omega
          rw [e]
          obtain ⟨H2, h3, h4⟩ := rcheck_loop C K H0 hv hl rest (i + 1) fuel H1 hd' (by simp at hf; omega) (Fr.trans hfr hfr1) ho1
          refine ⟨H2, ?_, h4⟩
          have hck : ckGo l.length ((n : Int) :: rest) (l.take i) = ckGo l.length rest (l.take (i + 1)) := by
            simp only [ckGo, if_neg (show ¬ ((n : Int) < 0 ∨ (n : Int) ≥ (l.length : Int) ∨ (n : Int) ∈ l.take i) from fun h => by rcases h with h | h | h; exact h0 h; exact h1 h; exact h2 h), htk]
          rw [hck]
          exact h3
theorem rcheck_ok (K : Nat) (hK : 64 < K) (d : Nat) (H : Heap) {v : SV} {l : List Int} (hv : Arr H v (intsL .i64 l)) : ∃ H', runQ wk tab slow K (d + 1) 21 [v] H = some (.int .i64 (ckE l), H') ∧ Frame H H' := by
  show ∃ H', f21 slow K (runQ wk tab slow K d) v H = _ ∧ _
  by_cases hb : (l.length : Int) > 64
  · refine ⟨H, ?_, Fr.refl _ _⟩
    simp only [f21, alen hv, z_gtr, decide_eq_true hb, z_cond, cond_true]
    unfold ckE
    rw [if_pos (by omega)]
  · simp only [f21, alen hv, z_gtr, decide_eq_false hb, z_cond, cond_false]
    obtain ⟨m, H1, hm, ho, hfr, _, _⟩ := z_make (H := H) (lo := H.size) (Nat.le_refl _) 1 (.bool false) l.length (by omega) (roomy_small (by omega)) .i64 .i64
    rw [hm]
    rw [← marks_nil] at ho
    obtain ⟨H2, h3, h4⟩ := rcheck_loop (runQ wk tab slow K d) K H hv (by omega) l 0 K H1 rfl (by omega) hfr ho
    refine ⟨H2, ?_, h4⟩
    unfold ckE
    rw [if_neg (by omega)]
    exact h3
theorem ckGo_mem {n : Nat} : ∀ {l seen : List Int}, ckGo n l seen = true → ∀ x ∈ l, 0 ≤ x ∧ x < n
  | [], _, _, x, hx => by cases hx
  | y :: l, seen, h, x, hx => by
    simp only [ckGo] at h
    split at h
    · cases h
    · rename_i hc
      rcases List.mem_cons.1 hx with rfl | hx
      · exact ⟨by omega, by omega⟩
      · exact ckGo_mem h x hx
theorem ck_zero {l : List Int} (h : ckE l = 0) : l.length ≤ 64 ∧ ckGo l.length l [] = true := by
  unfold ckE at h
  split at h
  · cases h
  · rename_i hc
    refine ⟨by omega, ?_⟩
    cases hg : ckGo l.length l [] with
    | true => rfl
    | false => rw [hg] at h; simp at h
theorem ck_mem {l : List Int} (h : ckE l = 0) : ∀ x ∈ l, 0 ≤ x ∧ x < l.length := ckGo_mem (ck_zero h).2
theorem same_loop (C : CallC) (K : Nat) (H : Heap) {v w : SV} {l m : List Int} (hv : Arr H v (intsL .i64 l)) (hw : Arr H w (intsL .i64 m)) (hl : l.length < 1000000000) (he : l.length = m.length) : ∀ (rest rest' : List Int) (i fuel : Nat), l.drop i = rest → m.drop i = rest' → rest.length < fuel →
    slow.loop3 (f22_l2 slow K C) fuel v w (.int .i64 i) H = some (.bool (decide (rest = rest')), H)
  | [], rest', i, fuel, hd, hd', hf => by
    obtain ⟨fuel, rfl⟩ : ∃ m, fuel = m + 1 := ⟨fuel - 1, by omega⟩
    have hle := List.drop_eq_nil_iff.1 hd
    have hi : ¬ ((i : Int) < (l.length : Int)) := by omega
    have : rest' = [] := by rw [← hd']; exact List.drop_eq_nil_iff.2 (by omega)
    subst this
    rw [z_loop3]
    simp only [f22_l2, alen hv, z_lss, decide_eq_false hi, z_cond, cond_false]
    rfl
  | x :: rest, [], i, fuel, hd, hd', hf => by
    have := List.drop_eq_nil_iff.1 hd'
    have := (drop_cons hd).2.2.1
    omega
  | x :: rest, y :: rest', i, fuel, hd, hd', hf => by
    obtain ⟨fuel, rfl⟩ : ∃ m, fuel = m + 1 := ⟨fuel - 1, by omega⟩
    obtain ⟨hx, hd1, hlt, htk⟩ := drop_cons hd
    obtain ⟨hy, hd2, _, _⟩ := drop_cons hd'
    have hi : (i : Int) < (l.length : Int) := by omega
    rw [z_loop3]
    simp only [f22_l2, alen hv, z_lss, decide_eq_true hi, z_cond, cond_true, hv.load (ints_get hx), hw.load (ints_get hy), z_neq]
    by_cases hxy : x = y
    · have hb : (x != y) = false := by simp [hxy]
      simp only [hb, cond_false]
      rw [z_add64 (by omega) (by omega)]
      have e : ((i : Int) + 1) = ((i + 1 : Nat) : Int) := by omega
      rw [e]
      have ih := same_loop C K H hv hw hl he rest rest' (i + 1) fuel hd1 hd2 (by simp at hf; omega)
      have e2 : decide (x :: rest = y :: rest') = decide (rest = rest') := decide_eq_decide.2 (by simp [hxy])
      rw [e2]
      exact ih
    · have hb : (x != y) = true := by simp [hxy]
      have e2 : decide (x :: rest = y :: rest') = false := decide_eq_false (by simp [hxy])
      simp only [hb, cond_true, e2]
theorem same_ok (K : Nat) (d : Nat) (H : Heap) {v w : SV} {l m : List Int} (hv : Arr H v (intsL .i64 l)) (hw : Arr H w (intsL .i64 m)) (hl : l.length < 1000000000) (hK : l.length < K) : runQ wk tab slow K (d + 1) 22 [v, w] H = some (.bool (decide (l = m)), H) := by
  show f22 slow K (runQ wk tab slow K d) v w H = _
  simp only [f22, alen hv, alen hw, z_neq]
  by_cases he : l.length = m.length
  · have hb : ((l.length : Int) != (m.length : Int)) = false := by simp [he]
    simp only [hb, z_cond, cond_false]
    exact same_loop (runQ wk tab slow K d) K H hv hw hl he l m 0 K rfl rfl hK
  · have hb : ((l.length : Int) != (m.length : Int)) = true := by simp; omega
    have e2 : decide (l = m) = false := decide_eq_false (fun e => he (by rw [e]))
    simp only [hb, z_cond, cond_true, e2]
end Go.Sh.Of

/- Contracts of the layer perm: Check and its like. -/
import Derived.Test.YtdmpghboginogaaWk
set_option linter.unusedVariables false
set_option linter.unusedSimpArgs false
namespace Go.Sh.Of
open Go


/-- Are the numbers from 0 on below n, and unlike each other and those seen? -/
def ckGo (n : Nat) : List Int → List Int → Bool
  | [], _ => true
  | x :: xs, seen => if x < 0 ∨ x ≥ n ∨ x ∈ seen then false else ckGo n xs (seen ++ [x])
def ckE (l : List Int) : Int := if l.length > 64 then 3 else if ckGo l.length l [] then 0 else 180
/-- Marks of those seen. -/
def marks (n : Nat) (seen : List Int) : List SV := (List.range n).map fun (j : Nat) => SV.bool (decide ((j : Int) ∈ seen))
theorem marks_len (n : Nat) (seen : List Int) : (marks n seen).length = n := by simp [marks]
theorem marks_get {n j : Nat} (h : j < n) (seen : List Int) : (marks n seen)[j]? = some (.bool (decide ((j : Int) ∈ seen))) := by
  simp [marks, h]
theorem marks_set {n j : Nat} (h : j < n) (seen : List Int) : (marks n seen).set j (.bool true) = marks n (seen ++ [(j : Int)]) := by
  apply List.ext_getElem?
  intro i
  rw [List.getElem?_set]
  by_cases hi : i < n
  · rw [marks_get hi]
    by_cases hj : j = i
    · subst hj
      rw [if_pos rfl, if_pos (by rw [marks_len]; exact h), marks_get h]
      exact congrArg (fun b => some (SV.bool b)) (decide_eq_true (show ((j : Int) ∈ seen ++ [(j : Int)]) from List.mem_append_right _ (List.mem_singleton.2 rfl))).symm
    · rw [if_neg hj, marks_get hi]
      have : ((i : Int) ∈ seen ++ [(j : Int)]) ↔ (i : Int) ∈ seen := by
        rw [List.mem_append, List.mem_singleton]
        constructor
        · rintro (h | h)
          · exact h
          · omega
        · exact .inl
      exact congrArg (fun b => some (SV.bool b)) (decide_eq_decide.2 this.symm)
  · rw [List.getElem?_eq_none (l := marks n (seen ++ [(j : Int)])) (by rw [marks_len]; omega)]
    split
    · rename_i e; subst e; omega
    · rw [List.getElem?_eq_none (by rw [marks_len]; omega)]
theorem marks_nil (n : Nat) : marks n [] = List.replicate n (.bool false) := by
  apply List.ext_getElem?
  intro i
  by_cases hi : i < n
  · rw [marks_get hi]; simp [hi]
  · rw [List.getElem?_eq_none (by rw [marks_len]; omega), List.getElem?_eq_none (by simp; omega)]
theorem drop_cons {α : Type} {l : List α} {i : Nat} {x : α} {rest : List α} (h : l.drop i = x :: rest) : l[i]? = some x ∧ l.drop (i + 1) = rest ∧ i < l.length ∧ l.take (i + 1) = l.take i ++ [x] := by
  have h1 : l[i]? = some x := by
    have := congrArg List.head? h
    rwa [List.head?_drop, List.head?_cons] at this
  have hlt := (List.getElem?_eq_some_iff.1 h1).1
  refine ⟨h1, ?_, hlt, ?_⟩
  · rw [← List.drop_drop, h]; rfl
  · rw [List.take_add_one, h1]; rfl

theorem check_loop (C : CallC) (K : Nat) (H : Heap) {v : SV} {l : List Int} (hv : Arr H v (intsL .i64 l)) (hl : l.length ≤ 64) : ∀ (rest : List Int) (i fuel : Nat), l.drop i = rest → rest.length < fuel →
    slow.loop5 (f20_l2 slow K C) fuel v (.box (marks 64 (l.take i))) v (.int .i64 l.length) (.int .i64 i) H = some (.int .i64 (if ckGo l.length rest (l.take i) then 0 else 180), H)
  | [], i, fuel, hd, hf => by
    obtain ⟨fuel, rfl⟩ : ∃ m, fuel = m + 1 := ⟨fuel - 1, by omega⟩
    have hi : ¬ ((i : Int) < (l.length : Int)) := by
      have := List.drop_eq_nil_iff.1 hd
      omega
    rw [z_loop5]
    simp only [f20_l2, z_lss, decide_eq_false hi, z_cond, cond_false, ckGo, if_true]
  | x :: rest, i, fuel, hd, hf => by
    obtain ⟨fuel, rfl⟩ : ∃ m, fuel = m + 1 := ⟨fuel - 1, by omega⟩
    obtain ⟨hx, hd', hlt, htk⟩ := drop_cons hd
    have hi : (i : Int) < (l.length : Int) := by omega
    have hget : (intsL .i64 l)[i]? = some (.int .i64 x) := ints_get hx
    rw [z_loop5]
    have hlen : ∀ k, slow.len v k = k (.int .i64 l.length) := fun k => by rw [hv.len]; simp
    simp only [f20_l2, z_lss, decide_eq_true hi, z_cond, cond_true, hv.load hget, hlen, z_geq, z_pick, z_rest_int]
    by_cases h0 : x < 0
    · simp only [decide_eq_true h0, cond_true, f20_j4, z_cond, z_rest_int]
      simp only [ckGo, if_pos (Or.inl h0)]
      rfl
    · simp only [decide_eq_false h0, cond_false]
      by_cases h1 : x ≥ (l.length : Int)
      · simp only [decide_eq_true h1, cond_true, f20_j4, z_cond, z_rest_int]
        simp only [ckGo, if_pos (Or.inr (Or.inl h1))]
        rfl
      · obtain ⟨n, rfl⟩ : ∃ n : Nat, x = n := ⟨x.toNat, by omega⟩
        have hn : n < 64 := by omega
        simp only [decide_eq_false h1, cond_false, z_lld hn (marks_get hn _)]
        by_cases h2 : (n : Int) ∈ l.take i
        · simp only [decide_eq_true h2, f20_j4, z_cond, cond_true, z_rest_int]
          simp only [ckGo, if_pos (Or.inr (Or.inr h2))]
          rfl
        · simp only [decide_eq_false h2, f20_j4, z_cond, cond_false]
          rw [z_lst hn (by rw [marks_len]; exact hn) rfl]
          rw [z_add64 (by omega) (by omega), marks_set hn]
          have e : ((i : Int) + 1) = ((i + 1 : Nat) : Int) := by omega
          rw [← htk, e]
          have ih := check_loop C K H hv hl rest (i + 1) fuel hd' (by simp at hf; omega)
          have hck : ckGo l.length ((n : Int) :: rest) (l.take i) = ckGo l.length rest (l.take (i + 1)) := by
            simp only [ckGo, if_neg (show ¬ ((n : Int) < 0 ∨ (n : Int) ≥ (l.length : Int) ∨ (n : Int) ∈ l.take i) from fun h => by rcases h with h | h | h; exact h0 h; exact h1 h; exact h2 h), htk]
          rw [hck]
          exact ih
/-- Check: what it tells. -/
theorem check_ok (K : Nat) (hK : 64 < K) (d : Nat) (H : Heap) {v : SV} {l : List Int} (hv : Arr H v (intsL .i64 l)) : runQ wk tab slow K (d + 1) 20 [v] H = some (.int .i64 (ckE l), H) := by
  show f20 slow K (runQ wk tab slow K d) v H = _
  have hlen : ∀ k, slow.len v k = k (.int .i64 l.length) := fun k => by rw [hv.len]; simp
  by_cases hb : (l.length : Int) > 64
  · simp only [f20, hlen, z_gtr, decide_eq_true hb, z_cond, cond_true]
    unfold ckE
    rw [if_pos (by omega)]
  · simp only [f20, hlen, z_gtr, decide_eq_false hb, z_cond, cond_false]
    have h := check_loop (runQ wk tab slow K d) K H hv (by omega) l 0 K rfl (by omega)
    rw [List.take_zero, marks_nil] at h
    unfold ckE
    rw [if_neg (by omega)]
    exact h
end Go.Sh.Of

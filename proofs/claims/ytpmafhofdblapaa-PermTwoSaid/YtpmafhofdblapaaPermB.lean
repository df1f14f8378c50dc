/- Contracts of the layer perm: the reference's Check, Mul, Done, Same. -/
import Derived.Test.YtpmafhofdblapaaPermA
set_option linter.unusedVariables false
set_option linter.unusedSimpArgs false
namespace Go.Sh.Of
open Go

theorem alen {H : Heap} {v : SV} {kd : IntKind} {l : List Int} (hv : Arr H v (intsL kd l)) (k : K1) : slow.len v k = k (.int .i64 l.length) := by rw [hv.len]; simp
theorem rcheck_loop (C : CallC) (K : Nat) (H0 : Heap) {v m : SV} {l : List Int} (hv : Arr H0 v (intsL .i64 l)) (hl : l.length ≤ 64) : ∀ (rest : List Int) (i fuel : Nat) (H : Heap), l.drop i = rest → rest.length < fuel → Frame H0 H → Own H0.size H m (marks l.length (l.take i)) →
    ∃ H', slow.loop3 (f27_l2 slow K C) fuel v m (.int .i64 i) H = some (.int .i64 (if ckGo l.length rest (l.take i) then 0 else 180), H') ∧ Frame H0 H'
  | [], i, fuel, H, hd, hf, hfr, ho => by
    obtain ⟨fuel, rfl⟩ : ∃ m, fuel = m + 1 := ⟨fuel - 1, by omega⟩
    have hi : ¬ ((i : Int) < (l.length : Int)) := by
      have := List.drop_eq_nil_iff.1 hd
      omega
    refine ⟨H, ?_, hfr⟩
    rw [z_loop3]
    simp only [f27_l2, alen (hv.fr hfr), z_lss, decide_eq_false hi, z_cond, cond_false, ckGo, if_true]
  | x :: rest, i, fuel, H, hd, hf, hfr, ho => by
    obtain ⟨fuel, rfl⟩ : ∃ m, fuel = m + 1 := ⟨fuel - 1, by omega⟩
    obtain ⟨hx, hd', hlt, htk⟩ := drop_cons hd
    have hi : (i : Int) < (l.length : Int) := by omega
    have hget : (intsL .i64 l)[i]? = some (.int .i64 x) := ints_get hx
    have hv' := hv.fr hfr
    simp only [z_loop3]
    simp only [f27_l2, alen hv', z_lss, decide_eq_true hi, z_cond, z_guard, cond_true, hv'.load hget, z_geq]
    by_cases h0 : x < 0
    · simp only [decide_eq_true h0, cond_true, f27_j4, z_cond]
      simp only [ckGo, if_pos (Or.inl h0)]
      exact ⟨H, rfl, hfr⟩
    · simp only [decide_eq_false h0, cond_false]
      by_cases h1 : x ≥ (l.length : Int)
      · simp only [decide_eq_true h1, cond_true, f27_j4, z_cond]
        simp only [ckGo, if_pos (Or.inr (Or.inl h1))]
        exact ⟨H, rfl, hfr⟩
      · obtain ⟨n, rfl⟩ : ∃ n : Nat, x = n := ⟨x.toNat, by omega⟩
        have hn : n < l.length := by omega
        simp only [decide_eq_false h1, cond_false, ho.arr.load (marks_get hn _)]
        by_cases h2 : (n : Int) ∈ l.take i
        · simp only [decide_eq_true h2, f27_j4, z_cond, cond_true]
          simp only [ckGo, if_pos (Or.inr (Or.inr h2))]
          exact ⟨H, rfl, hfr⟩
        · simp only [decide_eq_false h2, f27_j4, z_cond, cond_false, hv'.load hget]
          obtain ⟨H1, hs, ho1, hfr1, _, _⟩ := ho.store (i := n) (by rw [marks_len]; exact hn) (x := .bool true) rfl .i64
          rw [hs, z_add64 (by omega) (by omega)]
          rw [marks_set hn, ← htk] at ho1
          have e : ((i : Int) + 1) = ((i + 1 : Nat) : Int) := by omega
          rw [e]
          obtain ⟨H2, h3, h4⟩ := rcheck_loop C K H0 hv hl rest (i + 1) fuel H1 hd' (by simp at hf; omega) (Fr.trans hfr hfr1) ho1
          refine ⟨H2, ?_, h4⟩
          have hck : ckGo l.length ((n : Int) :: rest) (l.take i) = ckGo l.length rest (l.take (i + 1)) := by
            simp only [ckGo, if_neg (show ¬ ((n : Int) < 0 ∨ (n : Int) ≥ (l.length : Int) ∨ (n : Int) ∈ l.take i) from fun h => by rcases h with h | h | h; exact h0 h; exact h1 h; exact h2 h), htk]
          rw [hck]
          exact h3
theorem rcheck_ok (K : Nat) (hK : 64 < K) (d : Nat) (H : Heap) {v : SV} {l : List Int} (hv : Arr H v (intsL .i64 l)) : ∃ H', runQ wk tab slow K (d + 1) 27 [v] H = some (.int .i64 (ckE l), H') ∧ Frame H H' := by
  show ∃ H', f27 slow K (runQ wk tab slow K d) v H = _ ∧ _
  by_cases hb : (l.length : Int) > 64
  · refine ⟨H, ?_, Fr.refl _ _⟩
    simp only [f27, alen hv, z_gtr, decide_eq_true hb, z_cond, cond_true]
    unfold ckE
    rw [if_pos (by omega)]
  · simp only [f27, alen hv, z_gtr, decide_eq_false hb, z_cond, cond_false]
    obtain ⟨m, H1, hm, ho, hfr, _, _⟩ := z_make (H := H) (lo := H.size) (Nat.le_refl _) 1 (.bool false) l.length (by omega) (roomy_small (by omega)) .i64 .i64
    rw [hm]
    rw [← marks_nil] at ho
    obtain ⟨H2, h3, h4⟩ := rcheck_loop (runQ wk tab slow K d) K H hv (by omega) l 0 K H1 rfl (by omega) hfr ho
    refine ⟨H2, ?_, h4⟩
    unfold ckE
    rw [if_neg (by omega)]
    exact h3
/-- Lists of slices of numbers. -/
def Arrs (H : Heap) : List SV → List (List Int) → Prop
  | [], [] => True
  | v :: vs, l :: ls => Arr H v (intsL .i64 l) ∧ Arrs H vs ls
  | _, _ => False
theorem Arrs.fr {H H' : Heap} (hf : Frame H H') : ∀ {vs : List SV} {ls : List (List Int)}, Arrs H vs ls → Arrs H' vs ls
  | [], [], _ => trivial
  | v :: vs, l :: ls, h => ⟨h.1.fr hf, Arrs.fr hf h.2⟩
  | [], _ :: _, h => h.elim
  | _ :: _, [], h => h.elim
/-- The first error of several. -/
def ckAll : List (List Int) → Int
  | [] => 0
  | l :: ls => if ckE l ≠ 0 then ckE l else ckAll ls
theorem checked_loop (K : Nat) (hK : 64 < K) (d : Nat) (H : Heap) {w : SV} {ws : List SV} (hw : Arr H w ws) (hn : ws.length < 1000000) : ∀ (rest : List SV) (ls : List (List Int)) (i fuel : Nat), ws.drop i = rest → Arrs H rest ls → rest.length < fuel →
    slow.loop3 (f31_l1 slow K (runQ wk tab slow K (d + 1))) fuel w (.int .i64 ws.length) (.int .i64 i) H = some (.int .i64 (ckAll ls), H)
  | [], [], i, fuel, hd, ha, hf => by
    obtain ⟨fuel, rfl⟩ : ∃ m, fuel = m + 1 := ⟨fuel - 1, by omega⟩
    have hi : ¬ ((i : Int) < (ws.length : Int)) := by
      have := List.drop_eq_nil_iff.1 hd
      omega
    rw [z_loop3]
    simp only [f31_l1, z_lss, decide_eq_false hi, z_cond, cond_false, ckAll]
  | v :: rest, l :: ls, i, fuel, hd, ha, hf => by
    obtain ⟨fuel, rfl⟩ : ∃ m, fuel = m + 1 := ⟨fuel - 1, by omega⟩
    obtain ⟨hx, hd', hlt, htk⟩ := drop_cons hd
    have hi : (i : Int) < (ws.length : Int) := by omega
    rw [z_loop3]
    simp only [f31_l1, z_lss, decide_eq_true hi, z_cond, cond_true, hw.load hx, check_ok K hK d H ha.1, z_call, z_neq]
    by_cases h0 : ckE l = 0
    · have : (ckE l != 0) = false := by simp [h0]
      simp only [this, cond_false]
      rw [z_add64 (by omega) (by omega)]
      have e : ((i : Int) + 1) = ((i + 1 : Nat) : Int) := by omega
      rw [e]
      have ih := checked_loop K hK d H hw hn rest ls (i + 1) fuel hd' ha.2 (by simp at hf; omega)
      simp only [ckAll, h0, ne_eq, not_true_eq_false, if_false]
      exact ih
    · have : (ckE l != 0) = true := by simp [h0]
      simp only [this, cond_true, z_rest_int, ckAll, ne_eq, h0, not_false_eq_true, if_true]
  | [], _ :: _, i, fuel, hd, ha, hf => ha.elim
  | _ :: _, [], i, fuel, hd, ha, hf => ha.elim
theorem checked_ok (K : Nat) (hK : 64 < K) (d : Nat) (H : Heap) {w : SV} {ws : List SV} {ls : List (List Int)} (hw : Arr H w ws) (hn : ws.length < K) (hn' : ws.length < 1000000) (ha : Arrs H ws ls) : runQ wk tab slow K (d + 2) 31 [w] H = some (.int .i64 (ckAll ls), H) := by
  show f31 slow K (runQ wk tab slow K (d + 1)) w H = _
  simp only [f31, hw.len]
  exact checked_loop K hK d H hw hn' ws ls 0 K rfl ha hn
/-- p, then q. -/
def doneL (p q : List Int) : List Int := p.map fun x => (q[x.toNat]?).getD 0
theorem ckGo_mem {n : Nat} : ∀ {l seen : List Int}, ckGo n l seen = true → ∀ x ∈ l, 0 ≤ x ∧ x < n
  | [], _, _, x, hx => by cases hx
  | y :: l, seen, h, x, hx => by
    simp only [ckGo] at h
    split at h
    · cases h
    · rename_i hc
      rcases List.mem_cons.1 hx with rfl | hx
      · exact ⟨by omega, by omega⟩
      · exact ckGo_mem h x hx
theorem ck_zero {l : List Int} (h : ckE l = 0) : l.length ≤ 64 ∧ ckGo l.length l [] = true := by
  unfold ckE at h
  split at h
  · cases h
  · rename_i hc
    refine ⟨by omega, ?_⟩
    cases hg : ckGo l.length l [] with
    | true => rfl
    | false => rw [hg] at h; simp at h
theorem ck_mem {l : List Int} (h : ckE l = 0) : ∀ x ∈ l, 0 ≤ x ∧ x < l.length := ckGo_mem (ck_zero h).2
theorem set_next {α : Type} (xs : List α) (z y : α) (n : Nat) : (xs ++ List.replicate (n + 1) z).set xs.length y = (xs ++ [y]) ++ List.replicate n z := by
  rw [List.set_append_right _ _ (Nat.le_refl _)]
  simp [List.replicate_succ]
theorem mul_loop (C : CallC) (K : Nat) (H0 : Heap) {v q o : SV} {l m : List Int} (hv : Arr H0 v (intsL .i64 l)) (hq : Arr H0 q (intsL .i64 m)) (hl : l.length ≤ 64) (hm : ∀ x ∈ l, 0 ≤ x ∧ x < m.length) : ∀ (rest : List Int) (i fuel : Nat) (H : Heap), l.drop i = rest → rest.length < fuel → Frame H0 H → Own H0.size H o (intsL .i64 (doneL (l.take i) m) ++ List.replicate rest.length (.int .i64 0)) →
    ∃ H', slow.loop5 (f10_l3 slow K C) fuel q o v (.int .i64 l.length) (.int .i64 i) H = some (.tuple [o, .int .i64 0], H') ∧ Frame H0 H' ∧ Arr H' o (intsL .i64 (doneL l m))
  | [], i, fuel, H, hd, hf, hfr, ho => by
    obtain ⟨fuel, rfl⟩ : ∃ m, fuel = m + 1 := ⟨fuel - 1, by omega⟩
    have hle := List.drop_eq_nil_iff.1 hd
    have hi : ¬ ((i : Int) < (l.length : Int)) := by omega
    rw [List.take_of_length_le hle] at ho
    simp only [List.length_nil, List.replicate_zero, List.append_nil] at ho
    refine ⟨H, ?_, hfr, ho.arr⟩
    rw [z_loop5]
    simp only [f10_l3, z_lss, decide_eq_false hi, z_cond, cond_false, z_rest ho.arr.good]
  | x :: rest, i, fuel, H, hd, hf, hfr, ho => by
    obtain ⟨fuel, rfl⟩ : ∃ m, fuel = m + 1 := ⟨fuel - 1, by omega⟩
    obtain ⟨hx, hd', hlt, htk⟩ := drop_cons hd
    have hi : (i : Int) < (l.length : Int) := by omega
    have hxl : x ∈ l := List.mem_of_getElem? hx
    obtain ⟨hx0, hx1⟩ := hm x hxl
    have hget : (intsL .i64 l)[i]? = some (.int .i64 x) := ints_get hx
    have hv' := hv.fr hfr
    have hq' := hq.fr hfr
    obtain ⟨y, hy⟩ : ∃ y, m[x.toNat]? = some y := ⟨_, List.getElem?_eq_getElem (by omega)⟩
    have hlen : (intsL .i64 (doneL (l.take i) m)).length = i := by simp [doneL]; omega
    obtain ⟨H1, hs, ho1, hfr1, _, _⟩ := ho.store (i := i) (by rw [List.length_append, hlen]; simp) (x := .int .i64 y) rfl .i64
    rw [List.length_cons, show (intsL .i64 (doneL (l.take i) m) ++ List.replicate (rest.length + 1) (SV.int .i64 0)).set i (.int .i64 y) = (intsL .i64 (doneL (l.take i) m) ++ List.replicate (rest.length + 1) (SV.int .i64 0)).set (intsL .i64 (doneL (l.take i) m)).length (.int .i64 y) by rw [hlen], set_next] at ho1
    have e1 : intsL .i64 (doneL (l.take i) m) ++ [SV.int .i64 y] = intsL .i64 (doneL (l.take (i + 1)) m) := by
      rw [htk]; simp [doneL, hy]
    rw [e1] at ho1
    obtain ⟨H2, h3, h4, h5⟩ := mul_loop C K H0 hv hq hl hm rest (i + 1) fuel H1 hd' (by simp at hf; omega) (Fr.trans hfr hfr1) ho1
    refine ⟨H2, ?_, h4, h5⟩
    rw [z_loop5]
    simp only [f10_l3, z_lss, decide_eq_true hi, z_cond, cond_true, hv'.load hget, hq'.loadI hx0 (ints_get hy), hs]
    rw [z_add64 (by omega) (by omega)]
    have e : ((i : Int) + 1) = ((i + 1 : Nat) : Int) := by omega
    rw [e]
    exact h3
/-- What Mul answers. -/
def mulE (p q : List Int) : Int := if ckE p ≠ 0 then ckE p else if ckE q ≠ 0 then ckE q else if p.length ≠ q.length then 180 else 0
def mulL (p q : List Int) : List Int := if mulE p q = 0 then doneL p q else []
theorem mulE_zero {p q : List Int} (h : mulE p q = 0) : ckE p = 0 ∧ ckE q = 0 ∧ p.length = q.length := by
  unfold mulE at h
  split at h
  · rename_i h1; exact absurd h h1
  · rename_i h1
    split at h
    · rename_i h2; exact absurd h h2
    · rename_i h2
      split at h
      · cases h
      · rename_i h3; exact ⟨Decidable.not_not.1 h1, Decidable.not_not.1 h2, Decidable.not_not.1 h3⟩
theorem mul_ok (K : Nat) (hK : 64 < K) (d : Nat) (H : Heap) {v w : SV} {p q : List Int} (hv : Arr H v (intsL .i64 p)) (hw : Arr H w (intsL .i64 q)) :
    ∃ r H', runQ wk tab slow K (d + 3) 10 [v, w] H = some (.tuple [r, .int .i64 (mulE p q)], H') ∧ Frame H H' ∧ Arr H' r (intsL .i64 (mulL p q)) := by
  show ∃ r H', f10 slow K (runQ wk tab slow K (d + 2)) v w H = _ ∧ _
  obtain ⟨u, H1, hu, ho, hfr, _, _⟩ := z_lay2 (H := H) (lo := H.size) (Nat.le_refl _) (.slice nilSl) (.slice nilSl) hv.flat hw.flat
  have hv1 := hv.fr hfr
  have hw1 := hw.fr hfr
  simp only [f10, hu, checked_ok K hK d H1 ho.arr (by simp; omega) (by simp) (show Arrs H1 [v, w] [p, q] from ⟨hv1, hw1, trivial⟩), z_call, z_neq]
  by_cases h0 : ckAll [p, q] = 0
  · have hb : (ckAll [p, q] != 0) = false := by simp [h0]
    simp only [hb, z_cond, cond_false, alen hv1, alen hw1, z_neq]
    have hp : ckE p = 0 := by
      by_cases h : ckE p = 0
      · exact h
      · simp [ckAll, h] at h0
    have hq : ckE q = 0 := by
      by_cases h : ckE q = 0
      · exact h
      · simp [ckAll, hp, h] at h0
    by_cases h1 : p.length = q.length
    · have hb2 : ((p.length : Int) != (q.length : Int)) = false := by simp [h1]
      simp only [hb2, cond_false]
      have hpl := (ck_zero hp).1
      obtain ⟨o, H2, hm, ho2, hfr2, _, _⟩ := z_make (H := H1) (lo := H1.size) (Nat.le_refl _) 8 (.int .i64 0) p.length (by omega) (roomy_small (by omega)) .i64 .i64
      rw [hm]
      have hmul : mulE p q = 0 := by simp [mulE, hp, hq, h1]
      obtain ⟨H3, h3, h4, h5⟩ := mul_loop (runQ wk tab slow K (d + 2)) K H1 hv1 hw1 hpl (fun x hx => by rw [← h1]; exact ck_mem hp x hx) p 0 K H2 rfl (by omega) hfr2 (by simpa [doneL] using ho2)
      refine ⟨o, H3, ?_, hfr.trans h4, ?_⟩
      · rw [hmul]; exact h3
      · unfold mulL; rw [if_pos hmul]; exact h5
    · have hb2 : ((p.length : Int) != (q.length : Int)) = true := by
        simp; omega
      simp only [hb2, cond_true]
      have hmul : mulE p q = 180 := by simp [mulE, hp, hq, h1]
      refine ⟨.slice nilSl, H1, by rw [hmul], hfr, ?_⟩
      unfold mulL; rw [hmul]; exact Arr.nil _
  · have hb : (ckAll [p, q] != 0) = true := by simp [h0]
    simp only [hb, z_cond, cond_true, z_rest_int]
    have hmul : mulE p q = ckAll [p, q] := by
      by_cases hp : ckE p = 0
      · have hq : ckE q ≠ 0 := fun hq => h0 (by simp [ckAll, hp, hq])
        simp [mulE, ckAll, hp, hq]
      · simp [mulE, ckAll, hp]
    refine ⟨.slice nilSl, H1, by rw [hmul], hfr, ?_⟩
    unfold mulL; rw [hmul, if_neg h0]; exact Arr.nil _
theorem done_loop (C : CallC) (K : Nat) (H0 : Heap) {v q : SV} {l m : List Int} (hv : Arr H0 v (intsL .i64 l)) (hq : Arr H0 q (intsL .i64 m)) (hl : l.length ≤ 64) (hm : ∀ x ∈ l, 0 ≤ x ∧ x < m.length) : ∀ (rest : List Int) (i fuel : Nat) (H : Heap) (o : SV), l.drop i = rest → rest.length < fuel → Frame H0 H → Own H0.size H o (intsL .i64 (doneL (l.take i) m)) →
    ∃ o' H', slow.loop4 (f32_l1 slow K C) fuel v q o (.int .i64 i) H = some (o', H') ∧ Frame H0 H' ∧ Arr H' o' (intsL .i64 (doneL l m))
  | [], i, fuel, H, o, hd, hf, hfr, ho => by
    obtain ⟨fuel, rfl⟩ : ∃ m, fuel = m + 1 := ⟨fuel - 1, by omega⟩
    have hle := List.drop_eq_nil_iff.1 hd
    have hi : ¬ ((i : Int) < (l.length : Int)) := by omega
    rw [List.take_of_length_le hle] at ho
    refine ⟨o, H, ?_, hfr, ho.arr⟩
    rw [z_loop4]
    simp only [f32_l1, alen (hv.fr hfr), z_lss, decide_eq_false hi, z_cond, cond_false, z_rest ho.arr.good]
  | x :: rest, i, fuel, H, o, hd, hf, hfr, ho => by
    obtain ⟨fuel, rfl⟩ : ∃ m, fuel = m + 1 := ⟨fuel - 1, by omega⟩
    obtain ⟨hx, hd', hlt, htk⟩ := drop_cons hd
    have hi : (i : Int) < (l.length : Int) := by omega
    have hxl : x ∈ l := List.mem_of_getElem? hx
    obtain ⟨hx0, hx1⟩ := hm x hxl
    have hget : (intsL .i64 l)[i]? = some (.int .i64 x) := ints_get hx
    have hv' := hv.fr hfr
    have hq' := hq.fr hfr
    obtain ⟨y, hy⟩ : ∃ y, m[x.toNat]? = some y := ⟨_, List.getElem?_eq_getElem (by omega)⟩
    obtain ⟨u, H1, hu, hou, hfu, _, _⟩ := z_lay1 (H := H) (lo := H.size) (Nat.le_refl _) (.int .i64 0) (x := .int .i64 y) rfl
    have hlen : (intsL .i64 (doneL (l.take i) m)).length = i := by simp [doneL]; omega
    obtain ⟨o', H2, ha, ho2, hfr2, _, _, _⟩ := (ho.fr hfu).append (Nat.le_trans hfr.size hfu.size) hou.arr (by_ := 8) (roomy_small (by rw [hlen]; simp; omega))
    have e1 : intsL .i64 (doneL (l.take i) m) ++ [SV.int .i64 y] = intsL .i64 (doneL (l.take (i + 1)) m) := by
      rw [htk]; simp [doneL, hy]
    rw [e1] at ho2
    obtain ⟨o'', H3, h3, h4, h5⟩ := done_loop C K H0 hv hq hl hm rest (i + 1) fuel H2 o' hd' (by simp at hf; omega) (Fr.trans (hfr.trans hfu) hfr2) ho2
    refine ⟨o'', H3, ?_, h4, h5⟩
    rw [z_loop4]
    simp only [f32_l1, alen hv', z_lss, decide_eq_true hi, z_cond, cond_true, hv'.load hget, hq'.loadI hx0 (ints_get hy), hu, ha]
    rw [z_add64 (by omega) (by omega)]
    have e : ((i : Int) + 1) = ((i + 1 : Nat) : Int) := by omega
    rw [e]
    exact h3
theorem done_ok (K : Nat) (hK : 64 < K) (d : Nat) (H : Heap) {v w : SV} {p q : List Int} (hv : Arr H v (intsL .i64 p)) (hw : Arr H w (intsL .i64 q)) (hl : p.length ≤ 64) (hm : ∀ x ∈ p, 0 ≤ x ∧ x < q.length) :
    ∃ r H', runQ wk tab slow K (d + 1) 32 [v, w] H = some (r, H') ∧ Frame H H' ∧ Arr H' r (intsL .i64 (doneL p q)) := by
  show ∃ r H', f32 slow K (runQ wk tab slow K d) v w H = _ ∧ _
  exact done_loop (runQ wk tab slow K d) K H hv hw hl hm p 0 K H (.slice nilSl) rfl (by omega) (Fr.refl _ _) (by simpa [doneL] using Own.nil H.size H)
theorem rmul_ok (K : Nat) (hK : 64 < K) (d : Nat) (H : Heap) {v w : SV} {p q : List Int} (hv : Arr H v (intsL .i64 p)) (hw : Arr H w (intsL .i64 q)) :
    ∃ r H', runQ wk tab slow K (d + 2) 11 [v, w] H = some (.tuple [r, .int .i64 (mulE p q)], H') ∧ Frame H H' ∧ Arr H' r (intsL .i64 (mulL p q)) := by
  show ∃ r H', f11 slow K (runQ wk tab slow K (d + 1)) v w H = _ ∧ _
  obtain ⟨H1, h1, f1⟩ := rcheck_ok K hK d H hv
  simp only [f11, h1, z_call, z_neq]
  by_cases hp : ckE p = 0
  · have hb : (ckE p != 0) = false := by simp [hp]
    simp only [hb, z_cond, cond_false]
    obtain ⟨H2, h2, f2⟩ := rcheck_ok K hK d H1 (hw.fr f1)
    simp only [h2, z_call, z_neq]
    have f12 := f1.trans f2
    by_cases hq : ckE q = 0
    · have hb : (ckE q != 0) = false := by simp [hq]
      simp only [hb, z_cond, cond_false, alen (hv.fr f12), alen (hw.fr f12), z_neq]
      by_cases h1 : p.length = q.length
      · have hb2 : ((p.length : Int) != (q.length : Int)) = false := by simp [h1]
        simp only [hb2, cond_false]
        have hmul : mulE p q = 0 := by simp [mulE, hp, hq, h1]
        obtain ⟨r, H3, h3, h4, h5⟩ := done_ok K hK d H2 (hv.fr f12) (hw.fr f12) (ck_zero hp).1 (fun x hx => by rw [← h1]; exact ck_mem hp x hx)
        refine ⟨r, H3, ?_, f12.trans h4, ?_⟩
        · rw [h3]; simp only [z_call, z_rest h5.good, hmul]
        · unfold mulL; rw [if_pos hmul]; exact h5
      · have hb2 : ((p.length : Int) != (q.length : Int)) = true := by
          simp; omega
        simp only [hb2, cond_true]
        have hmul : mulE p q = 180 := by simp [mulE, hp, hq, h1]
        refine ⟨.slice nilSl, H2, by rw [hmul], f12, ?_⟩
        unfold mulL; rw [hmul]; exact Arr.nil _
    · have hb : (ckE q != 0) = true := by simp [hq]
      simp only [hb, z_cond, cond_true, z_rest_int]
      have hmul : mulE p q = ckE q := by simp [mulE, hp, hq]
      refine ⟨.slice nilSl, H2, by rw [hmul], f12, ?_⟩
      unfold mulL; rw [hmul, if_neg hq]; exact Arr.nil _
  · have hb : (ckE p != 0) = true := by simp [hp]
    simp only [hb, z_cond, cond_true, z_rest_int]
    have hmul : mulE p q = ckE p := by simp [mulE, hp]
    refine ⟨.slice nilSl, H1, by rw [hmul], f1, ?_⟩
    unfold mulL; rw [hmul, if_neg hp]; exact Arr.nil _
theorem same_loop (C : CallC) (K : Nat) (H : Heap) {v w : SV} {l m : List Int} (hv : Arr H v (intsL .i64 l)) (hw : Arr H w (intsL .i64 m)) (hl : l.length < 1000000) (he : l.length = m.length) : ∀ (rest rest' : List Int) (i fuel : Nat), l.drop i = rest → m.drop i = rest' → rest.length < fuel →
    slow.loop3 (f12_l2 slow K C) fuel v w (.int .i64 i) H = some (.bool (decide (rest = rest')), H)
  | [], rest', i, fuel, hd, hd', hf => by
    obtain ⟨fuel, rfl⟩ : ∃ m, fuel = m + 1 := ⟨fuel - 1, by omega⟩
    have hle := List.drop_eq_nil_iff.1 hd
    have hi : ¬ ((i : Int) < (l.length : Int)) := by omega
    have : rest' = [] := by rw [← hd']; exact List.drop_eq_nil_iff.2 (by omega)
    subst this
    rw [z_loop3]
    simp only [f12_l2, alen hv, z_lss, decide_eq_false hi, z_cond, cond_false]
    rfl
  | x :: rest, [], i, fuel, hd, hd', hf => by
    have := List.drop_eq_nil_iff.1 hd'
    have := (drop_cons hd).2.2.1
    omega
  | x :: rest, y :: rest', i, fuel, hd, hd', hf => by
    obtain ⟨fuel, rfl⟩ : ∃ m, fuel = m + 1 := ⟨fuel - 1, by omega⟩
    obtain ⟨hx, hd1, hlt, htk⟩ := drop_cons hd
    obtain ⟨hy, hd2, _, _⟩ := drop_cons hd'
    have hi : (i : Int) < (l.length : Int) := by omega
    rw [z_loop3]
    simp only [f12_l2, alen hv, z_lss, decide_eq_true hi, z_cond, cond_true, hv.load (ints_get hx), hw.load (ints_get hy), z_neq]
    by_cases hxy : x = y
    · have hb : (x != y) = false := by simp [hxy]
      simp only [hb, cond_false]
      rw [z_add64 (by omega) (by omega)]
      have e : ((i : Int) + 1) = ((i + 1 : Nat) : Int) := by omega
      rw [e]
      have ih := same_loop C K H hv hw hl he rest rest' (i + 1) fuel hd1 hd2 (by simp at hf; omega)
      have e2 : decide (x :: rest = y :: rest') = decide (rest = rest') := decide_eq_decide.2 (by simp [hxy])
      rw [e2]
      exact ih
    · have hb : (x != y) = true := by simp [hxy]
      have e2 : decide (x :: rest = y :: rest') = false := decide_eq_false (by simp [hxy])
      simp only [hb, cond_true, e2]
theorem same_ok (K : Nat) (d : Nat) (H : Heap) {v w : SV} {l m : List Int} (hv : Arr H v (intsL .i64 l)) (hw : Arr H w (intsL .i64 m)) (hl : l.length < 1000000) (hK : l.length < K) : runQ wk tab slow K (d + 1) 12 [v, w] H = some (.bool (decide (l = m)), H) := by
  show f12 slow K (runQ wk tab slow K d) v w H = _
  simp only [f12, alen hv, alen hw, z_neq]
  by_cases he : l.length = m.length
  · have hb : ((l.length : Int) != (m.length : Int)) = false := by simp [he]
    simp only [hb, z_cond, cond_false]
    exact same_loop (runQ wk tab slow K d) K H hv hw hl he l m 0 K rfl rfl hK
  · have hb : ((l.length : Int) != (m.length : Int)) = true := by simp; omega
    have e2 : decide (l = m) = false := decide_eq_false (fun e => he (by rw [e]))
    simp only [hb, z_cond, cond_true, e2]
theorem mulL_len (p q : List Int) : (mulL p q).length ≤ 64 := by
  unfold mulL
  split
  · rename_i h
    have := (ck_zero (mulE_zero h).1).1
    simpa [doneL] using this
  · simp
/-- PermTwo: true. -/
theorem two_ok (K : Nat) (hK : 64 < K) (d : Nat) (H : Heap) {v w : SV} {p q : List Int} (hv : Arr H v (intsL .i64 p)) (hw : Arr H w (intsL .i64 q)) :
    ∃ H', runQ wk tab slow K (d + 4) 3 [v, w] H = some (.bool true, H') ∧ Frame H H' := by
  show ∃ H', f3 slow K (runQ wk tab slow K (d + 3)) v w H = _ ∧ _
  obtain ⟨r, H1, h1, f1, a1⟩ := mul_ok K hK d H hv hw
  obtain ⟨s, H2, h2, f2, a2⟩ := rmul_ok K hK (d + 1) H1 (hv.fr f1) (hw.fr f1)
  have hl := mulL_len p q
  have h3 : runQ wk tab slow K (d + 3) 13 [] H2 = some (.bool true, H2) := rfl
  refine ⟨H2, ?_, f1.trans f2⟩
  simp only [Go.Sh.Of.f3, h1, z_call, z_ext0, z_ext1, h2, same_ok K (d + 2) H2 (a1.fr f2) a2 (by omega) (by omega), decide_true, z_cond, z_guard, cond_true, z_eql, beq_self_eq_true, h3, f3_j1, z_rest_bool]
end Go.Sh.Of

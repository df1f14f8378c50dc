/- Determinants by columns, turned over, by any row: plain words. -/
import Derived.Test.YtcecdmacoklhpaaDet
set_option linter.unusedVariables false
set_option linter.unusedSimpArgs false
namespace Go.Sh.Of
open Go

def setC (A : Mx) (c : Nat) (v : Nat → Int) : Mx := fun i k => if k = c then v i else A i k
theorem skip_eq {j k c : Nat} (h : c ≠ j) : skip j k = c ↔ k = unskip j c := by
  unfold skip unskip
  by_cases a : k < j
  · rw [if_pos a]
    by_cases b : c < j
    · rw [if_pos b]
    · rw [if_neg b]; omega
  · rw [if_neg a]
    by_cases b : c < j
    · rw [if_pos b]; omega
    · rw [if_neg b]; omega
theorem minor_setC_same (A : Mx) (c : Nat) (w : Nat → Int) : minor (setC A c w) c = minor A c := by
  funext i k
  show (if skip c k = c then w (i + 1) else A (i + 1) (skip c k)) = A (i + 1) (skip c k)
  rw [if_neg (skip_ne c k)]
theorem minor_setC (A : Mx) {c j : Nat} (w : Nat → Int) (h : c ≠ j) : minor (setC A c w) j = setC (minor A j) (unskip j c) (fun i => w (i + 1)) := by
  funext i k
  show (if skip j k = c then w (i + 1) else A (i + 1) (skip j k)) = if k = unskip j c then w (i + 1) else A (i + 1) (skip j k)
  by_cases e : k = unskip j c
  · rw [if_pos e, if_pos ((skip_eq h).2 e)]
  · rw [if_neg e, if_neg fun x => e ((skip_eq h).1 x)]
theorem col_lin : ∀ {n c : Nat} (A : Mx) (a : Int) (u v : Nat → Int), c < n → det n (setC A c fun i => a * u i + v i) = a * det n (setC A c u) + det n (setC A c v)
  | 0, c, _, _, _, _, h => by omega
  | n + 1, c, A, a, u, v, hc => by
    rw [det, det, det, ← sumZ_mul, ← sumZ_add]
    refine sumZ_congr fun j hj => ?_
    have e0 : ∀ w : Nat → Int, setC A c w 0 j = if j = c then w 0 else A 0 j := fun _ => rfl
    by_cases e : j = c
    · subst e
      rw [minor_setC_same, minor_setC_same, minor_setC_same, e0, e0, e0, if_pos rfl, if_pos rfl, if_pos rfl, Int.add_mul, Int.mul_add, Int.mul_assoc, Int.mul_left_comm (alt j) a]
    · have hs : unskip j c < n := unskip_lt hc hj (Ne.symm e)
      rw [minor_setC A _ (Ne.symm e), minor_setC A _ (Ne.symm e), minor_setC A _ (Ne.symm e), e0, e0, e0, if_neg e, if_neg e, if_neg e, col_lin (minor A j) a (fun i => u (i + 1)) (fun i => v (i + 1)) hs, Int.mul_add, Int.mul_add, Int.mul_left_comm (A 0 j) a, Int.mul_left_comm (alt j) a]
theorem sumZ_two {g : Nat → Int} {i k : Nat} {n : Nat} (hi : i < n) (hk : k < n) (hne : i ≠ k) (h : ∀ j, j < n → j ≠ i → j ≠ k → g j = 0) : sumZ n g = g i + g k := by
  have e : sumZ n g = sumZ n (fun j => if j = i then g j else 0) + sumZ n (fun j => if j = i then 0 else g j) := by
    rw [← sumZ_add]
    refine sumZ_congr fun j hj => ?_
    by_cases a : j = i
    · rw [if_pos a, if_pos a, Int.add_zero]
    · rw [if_neg a, if_neg a, Int.zero_add]
  rw [e, sumZ_one (i := i) hi fun j _ a => by rw [if_neg a], sumZ_one (i := k) hk fun j hj a => ?_, if_pos rfl, if_neg (Ne.symm hne)]
  by_cases b : j = i
  · rw [if_pos b]
  · rw [if_neg b, h j hj b a]
theorem col_adj : ∀ {n c : Nat} (A : Mx), c + 1 < n → (∀ i, i < n → A i c = A i (c + 1)) → det n A = 0
  | 0, c, _, h, _ => by omega
  | n + 1, c, A, hc, he => by
    rw [det, sumZ_two (i := c) (k := c + 1) (by omega) hc (by omega) fun j hj a b => ?_]
    · have e1 : det n (minor A c) = det n (minor A (c + 1)) := det_congr fun i k hi hk => by
        show A (i + 1) (skip c k) = A (i + 1) (skip (c + 1) k)
        unfold skip
        by_cases b : k < c
        · rw [if_pos b, if_pos (by omega)]
        · by_cases d : k = c
          · subst d
            rw [if_neg b, if_pos (by omega), he (i + 1) (by omega)]
          · rw [if_neg b, if_neg (by omega)]
      rw [e1, he 0 (by omega), show alt (c + 1) = -alt c from rfl, Int.neg_mul]
      omega
    · have e2 : det n (minor A j) = 0 := by
        refine col_adj (c := unskip j c) (minor A j) ?_ fun i hi => ?_
        · unfold unskip
          split <;> omega
        · show A (i + 1) (skip j (unskip j c)) = A (i + 1) (skip j (unskip j c + 1))
          have e3 : unskip j c + 1 = unskip j (c + 1) := by
            unfold unskip
            by_cases d : c < j
            · rw [if_pos d, if_pos (by omega)]
            · rw [if_neg d, if_neg (by omega)]; omega
          rw [e3, skip_unskip (Ne.symm a), skip_unskip (Ne.symm b), he (i + 1) (by omega)]
      rw [e2, Int.mul_zero, Int.mul_zero]
def tpM (A : Mx) : Mx := fun i k => A k i
theorem tpM_setR (A : Mx) (i : Nat) (w : Nat → Int) : tpM (setR A i w) = setC (tpM A) i w := by
  funext x y
  show setR A i w y x = if y = i then w x else A y x
  by_cases e : y = i
  · subst e
    rw [setR_at, if_pos rfl]
  · rw [setR_ne _ _ e, if_neg e]
theorem tr_Alt (n : Nat) : Alt n (fun A => det n (tpM A)) := by
  refine ⟨fun A C h => det_congr fun i k hi hk => h k i hk hi, fun A i c u v hi => ?_, fun A i hi he => col_adj (c := i) (tpM A) hi fun k hk => he k hk⟩
  rw [tpM_setR, tpM_setR, tpM_setR, col_lin _ _ _ _ hi]
theorem det_tr (n : Nat) (A : Mx) : det n (tpM A) = det n A := by
  rw [(tr_Alt n).uniq A]
  have e : tpM unit = unit := by
    funext i k
    show (if k = i then (1 : Int) else 0) = if i = k then 1 else 0
    by_cases h : i = k
    · rw [if_pos h, if_pos h.symm]
    · rw [if_neg h, if_neg (Ne.symm h)]
  rw [e, det_unit, Int.mul_one]
/-- A row is taken ahead of all. -/
theorem Alt.front {n : Nat} {F : Mx → Int} (h : Alt n F) (B : Mx) {j : Nat} (hj : j < n) : F (fun i => if i = 0 then B j else if i ≤ j then B (i - 1) else B i) = alt j * F B := by
  have go : ∀ d m, m + d = j → F (fun i => if i < m then B i else if i = m then B j else if i ≤ j then B (i - 1) else B i) = alt d * F B := fun d => by
    induction d with
    | zero =>
      intro m hm
      have hm' : m = j := by omega
      subst hm'
      rw [alt, Int.one_mul]
      congr 1
      funext i
      by_cases h1 : i < m
      · rw [if_pos h1]
      · rw [if_neg h1]
        by_cases h2 : i = m
        · rw [if_pos h2, h2]
        · rw [if_neg h2, if_neg (by omega)]
    | succ d ih =>
      intro m hm
      have h1 := ih (m + 1) (by omega)
      have h2 := h.swap (fun i => if i < m then B i else if i = m then B j else if i ≤ j then B (i - 1) else B i) (i := m) (by omega)
      have e : swR (fun i => if i < m then B i else if i = m then B j else if i ≤ j then B (i - 1) else B i) m = fun i => if i < m + 1 then B i else if i = m + 1 then B j else if i ≤ j then B (i - 1) else B i := by
        funext i
        show (if i = m then (if m + 1 < m then B (m + 1) else if m + 1 = m then B j else if m + 1 ≤ j then B (m + 1 - 1) else B (m + 1)) else if i = m + 1 then (if m < m then B m else if m = m then B j else if m ≤ j then B (m - 1) else B m) else (if i < m then B i else if i = m then B j else if i ≤ j then B (i - 1) else B i)) = (if i < m + 1 then B i else if i = m + 1 then B j else if i ≤ j then B (i - 1) else B i)
        by_cases a1 : i = m
        · subst a1
          rw [if_pos rfl, if_neg (by omega), if_neg (by omega), if_pos (by omega), if_pos (by omega), Nat.add_sub_cancel]
        · by_cases a2 : i = m + 1
          · subst a2
            rw [if_neg (by omega), if_pos rfl, if_neg (by omega), if_pos rfl, if_neg (by omega), if_pos rfl]
          · rw [if_neg a1, if_neg a2]
            by_cases a3 : i < m
            · rw [if_pos a3, if_pos (by omega)]
            · rw [if_neg a3, if_neg a1, if_neg (show ¬ i < m + 1 by omega), if_neg a2]
      rw [e, h1] at h2
      rw [alt]
      rw [Int.neg_mul]
      omega
  have := go j 0 (by omega)
  rw [← this]
  congr 1
def minor2 (A : Mx) (j k : Nat) : Mx := fun x y => A (skip j x) (skip k y)
theorem alt_mul_self : ∀ n : Nat, alt n * alt n = 1
  | 0 => rfl
  | n + 1 => by
    show -alt n * -alt n = 1
    rw [Int.neg_mul_neg, alt_mul_self n]
theorem alt_add (a : Nat) : ∀ b : Nat, alt (a + b) = alt a * alt b
  | 0 => by rw [Nat.add_zero, alt, Int.mul_one]
  | b + 1 => by
    show -alt (a + b) = alt a * -alt b
    rw [alt_add a b, Int.mul_neg]
/-- By any row. -/
theorem laplace {n : Nat} (B : Mx) {j : Nat} (hj : j < n + 1) : det (n + 1) B = sumZ (n + 1) fun k => B j k * (alt (j + k) * det n (minor2 B j k)) := by
  have h := (det_Alt (n + 1)).front B hj
  have h2 : det (n + 1) B = alt j * det (n + 1) (fun i => if i = 0 then B j else if i ≤ j then B (i - 1) else B i) := by
    rw [h, ← Int.mul_assoc, alt_mul_self, Int.one_mul]
  rw [h2, det, ← sumZ_mul]
  refine sumZ_congr fun k hk => ?_
  have e : det n (minor (fun i => if i = 0 then B j else if i ≤ j then B (i - 1) else B i) k) = det n (minor2 B j k) := det_congr fun x y hx hy => by
    show (if x + 1 = 0 then B j else if x + 1 ≤ j then B (x + 1 - 1) else B (x + 1)) (skip k y) = B (skip j x) (skip k y)
    rw [if_neg (show ¬ x + 1 = 0 by omega)]
    by_cases a : x < j
    · rw [if_pos (show x + 1 ≤ j by omega), Nat.add_sub_cancel]
      unfold skip
      rw [if_pos a]
    · rw [if_neg (show ¬ x + 1 ≤ j by omega)]
      unfold skip
      rw [if_neg a]
  rw [e, alt_add, if_pos rfl]
  ac_rfl
/-- The adjoint of a matrix of n + 1 rows. -/
def adjM (n : Nat) (A : Mx) : Mx := fun i j => alt (i + j) * det n (minor2 A j i)
theorem mul_adj {n : Nat} (A : Mx) {i j : Nat} (hi : i < n + 1) (hj : j < n + 1) : mulX (n + 1) A (adjM n A) i j = if i = j then det (n + 1) A else 0 := by
  have e : mulX (n + 1) A (adjM n A) i j = det (n + 1) (setR A j (A i)) := by
    rw [laplace (setR A j (A i)) hj]
    refine sumZ_congr fun k hk => ?_
    show A i k * (alt (k + j) * det n (minor2 A j k)) = _
    rw [setR_at, Nat.add_comm k j]
    congr 2
    refine det_congr fun x y hx hy => ?_
    show A (skip j x) (skip k y) = setR A j (A i) (skip j x) (skip k y)
    rw [setR_ne _ _ (skip_ne j x)]
  rw [e]
  by_cases a : i = j
  · subst a
    rw [if_pos rfl, setR_self]
  · rw [if_neg a]
    exact (det_Alt (n + 1)).rows _ hi hj a fun k _ => by rw [setR_ne _ _ a, setR_at]
theorem adjM_tp (n : Nat) (A : Mx) : adjM n (tpM A) = tpM (adjM n A) := by
  funext i j
  show alt (i + j) * det n (minor2 (tpM A) j i) = alt (j + i) * det n (minor2 A i j)
  rw [Nat.add_comm j i, ← det_tr n (minor2 A i j)]
  rfl
theorem adj_mul {n : Nat} (A : Mx) {i j : Nat} (hi : i < n + 1) (hj : j < n + 1) : mulX (n + 1) (adjM n A) A i j = if i = j then det (n + 1) A else 0 := by
  have h := mul_adj (tpM A) hj hi
  rw [adjM_tp, det_tr] at h
  have e : mulX (n + 1) (tpM A) (tpM (adjM n A)) j i = mulX (n + 1) (adjM n A) A i j := sumZ_congr fun t ht => Int.mul_comm _ _
  rw [e] at h
  rw [h]
  by_cases a : i = j
  · rw [if_pos a, if_pos a.symm]
  · rw [if_neg a, if_neg (Ne.symm a)]
end Go.Sh.Of
